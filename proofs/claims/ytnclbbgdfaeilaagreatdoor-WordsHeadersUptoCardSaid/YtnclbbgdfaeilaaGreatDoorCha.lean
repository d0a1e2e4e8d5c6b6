/- Walks: charset: Runes, Rune, joined, Repair. Walks: charset: Rune, joined, Repair. -/
import Derived.Test.YtnclbbgdfaeilaaGreatDoorRows
import Derived.Test.YtnclbbgdfaeilaaGreatDoorShelf
import Derived.Test.YtnclbbgdfaeilaaGreatDoorBld
import Derived.Test.YtnclbbgdfaeilaaGreatDoorUtx
import Derived.Deep.QuietTactic
import Derived.BigQuiet
import Derived.WalkSmall
import Derived.Shelf.Unicode.ValidAny
namespace Go.Proofs.YtnclbbgdfaeilaaGreatDoor
open Go.RowKit Pk U8

theorem islC : IntSl Tryz.prog 35 3 where
  ht := Tryz.underlying35
  hi := info_parts (show (Tryz.prog.info? 3).map (fun i => (i.zero, i.size, i.bytes)) = some (some (.int .i64 0), 1, 8) by kernel_rfl)
theorem ownsI_below {w w' : World} {B C : Nat} {e : TypeId} {v : Value} {l : List Int} (h : ownsI w B e v l) (hb : Below C w w') (hC : w.heap.size ≤ C) : ownsI w' B e v l := by
  refine ⟨h.1, ?_⟩
  rcases h.2 with hn | ⟨g, cap, cur, h1, h2, h3, h4⟩
  · exact .inl hn
  · have hg : g < w.heap.size := lt_of_block h3
    exact .inr ⟨g, cap, cur, h1, h2, (hb.block g (by omega)).trans h3, h4⟩
def Tabs (w : World) : Prop := Lib.Utf8Tabs 2 3 w
theorem Tabs.later {w w' : World} (h : Tabs w) (hb : Below w.heap.size w w') : Tabs w' := Utf8Tabs_below h hb
/-- runes as ints -/
def runesZ (l : List UInt8) : List Int := walk (fun l => [((dec l).1 : Int)]) l
theorem runesZ_eq : ∀ (n : Nat) (l : List UInt8), l.length ≤ n → runesZ l = (runes l).map fun (n : Nat) => (n : Int) := by
  intro n
  induction n with
  | zero => intro l h; have : l = [] := List.eq_nil_of_length_eq_zero (by omega); subst this; rfl
  | succ n ih =>
    intro l h
    by_cases he : l = []
    · subst he; rfl
    · have hw := dec_width l he
      have := ih (l.drop (dec l).2) (by rw [List.length_drop]; omega)
      unfold runesZ runes at *
      rw [walk_cons _ l he, walk_cons _ l he, this, List.map_append]
      rfl
def NextIs (s : ByteArray) (w : World) (e : Ending) (w' : World) : Prop := ∃ ok : Bool, e = .returned (.tuple #[.int .i64 (dec (tl s 0)).1, .string (s.extract (dec (tl s 0)).2 s.size), .bool ok]) ∧ Below w.heap.size w w'
set_option maxHeartbeats 1000000 in
theorem next_any (s : ByteArray) (w : World) (hT : Tabs w) (h0 : 0 < s.size) (hs : s.size ≤ 100000000) : Calls Tryz.prog 44 #[.string s] w (NextIs s w) := by
  have hd := Tryz.utf8_DecodeRuneInString s w hT
  have e : Lib.decodeGo s = dec (tl s 0) := by unfold Lib.decodeGo; rw [if_neg (by omega), dec_eq]
  rw [e] at hd
  obtain ⟨wd1, wd2, wd3⟩ := width_le h0
  obtain ⟨R, hR⟩ : ∃ R, R = dec (tl s 0) := ⟨_, rfl⟩
  have hsca := dec_rune (tl s 0) (tl_ne h0)
  rw [← hR] at hd wd1 wd2 wd3 hsca
  have hr4 : R.1 ≤ 1114111 := by unfold Sca at hsca; omega
  have HD := Lib.hid hd
  have HR := Lib.hid hR
  clear hd e hR hT
  have hfin : Hid (∀ ok w', Below w.heap.size w w' → NextIs s w (.returned (.tuple #[.int .i64 R.1, .string (s.extract R.2 s.size), .bool ok])) w') := fun ok w' hb => ⟨ok, by rw [HR.out], hb⟩
  by_cases h5 : R.1 = 65533
  · have q1 : ((R.1 : Int) != 65533) = false := by rw [bne_eq_false_iff_eq]; omega
    clear h5
    go_enter Tryz.func44, Tryz.ntmps44
    go_wp2_with (go_at_call 82; (with_reducible refine HD.out.mono ?_); rintro e w1 ⟨rfl, hb1⟩)
    go_quiet (fail)
    go_wp2
    go_ret3
    exact hfin.out _ _ ⟨hb1.os, hb1.tape, hb1.output, hb1.size, hb1.block⟩
  · have q1 : ((R.1 : Int) != 65533) = true := bne_iff_ne.2 (by omega)
    clear h5
    go_enter Tryz.func44, Tryz.ntmps44
    go_wp2_with (go_at_call 82; (with_reducible refine HD.out.mono ?_); rintro e w1 ⟨rfl, hb1⟩)
    go_quiet (fail)
    go_wp2
    go_ret3
    exact hfin.out _ _ ⟨hb1.os, hb1.tape, hb1.output, hb1.size, hb1.block⟩
theorem strC_nil {S : ByteArray} (h : S.size = 0) : S.toList = [] := by
  rw [Lib.toList_data]; exact List.eq_nil_of_length_eq_zero h
theorem strC_ne {S : ByteArray} (h : 0 < S.size) : S.toList.isEmpty = false := by
  rw [Lib.toList_data]
  have : S.data.toList.length = S.size := rfl
  cases hd : S.data.toList with
  | nil => rw [hd] at this; simp at this; omega
  | cons c r => rfl
theorem extC_tl (s : ByteArray) (p : Nat) : tl (s.extract p s.size) 0 = tl s p := by
  rw [tl_zero]
  rw [show (s.extract p s.size).data.toList = (s.data.toList.drop p).take (s.size - p) by rw [← Lib.extract_toList, Lib.toList_data]]
  rw [List.take_of_length_le (by rw [List.length_drop]; exact Nat.le_refl _)]; rfl
theorem extC_size (s : ByteArray) (p : Nat) (h : p ≤ s.size) : (s.extract p s.size).size = s.size - p := by rw [ByteArray.size_extract]; omega
def RunesIs (l : List UInt8) (w : World) (e : Ending) (w' : World) : Prop := ∃ v, e = .returned v ∧ ownsI w' w.heap.size 3 v (runesZ l) ∧ Below w.heap.size w w'
set_option maxHeartbeats 1000000 in
theorem runesP_any (s : ByteArray) (w : World) (hT : Tabs w) (hs : s.size ≤ 10000000) : Calls Tryz.prog 19 #[.string s] w (RunesIs s.data.toList w) := by
  have HT := Lib.hid hT
  clear hT
  go_enter Tryz.func19, Tryz.ntmps19
  go_wp2
  go_loopw [0, 2, 3] (fun sv lv _ wr => ∃ (S : ByteArray) (acc : List Int), sv = .string S ∧ ownsI wr w.heap.size 3 lv acc ∧ Below w.heap.size w wr ∧ acc.length + S.size ≤ s.size ∧ Hid (acc ++ runesZ (tl S 0) = runesZ (tl s 0))) (fun sv _ _ _ => match sv with | .string S => S.size | _ => 0)
  case atStart => exact ⟨s, [], rfl, ownsI.nil _ _ _, Below.refl _ _, by simp, rfl⟩
  case round =>
    obtain ⟨S, acc, rfl, hown, hbel, hal, hrel⟩ := hrel
    have hsz := hbel.size
    by_cases h0 : 0 < S.size
    · have hne := strC_ne h0
      obtain ⟨wd1, wd2, wd3⟩ := width_le h0
      have hstep := walk_step (g := fun l => [((dec l).1 : Int)]) hrel h0
      have hnx := Lib.hid (next_any S wr (HT.out.later hbel) h0 (by omega))
      obtain ⟨R, hR⟩ : ∃ R, R = dec (tl S 0) := ⟨_, rfl⟩
      rw [← hR] at hstep wd1 wd2 wd3
      unfold NextIs at hnx
      rw [← hR] at hnx
      have hex := extC_tl S R.2
      have hexs := extC_size S R.2 (by omega)
      obtain ⟨S', hS'⟩ : ∃ S', S.extract R.2 S.size = S' := ⟨_, rfl⟩
      rw [hS'] at hex hexs hnx
      rw [Nat.zero_add, ← hex] at hstep
      have HST := Lib.hid hstep
      have hs1 : S'.size + R.2 ≤ S.size := by omega
      have hs2 : S'.size < S.size := by omega
      clear hrel hstep hR hex hexs hS'
      go_wp2_with (first
        | (go_at_call 44; (with_reducible refine hnx.out.mono ?_); rintro e w1 ⟨ok, rfl, hb1⟩; have hown1 := ownsI_below hown hb1 (Nat.le_refl _); have hbel1 := hbel.trans (hb1.mono hsz); have hsz1 := hbel1.size)
        | (at_builtin; refine append_int _ rfl (.tmp 12) (.tmp 14) islC rfl w.heap.size _ _ rfl (hown1.alloc _) ⟨_, 0, none⟩ 1 1 [(R.1 : Int)] rfl rfl (cells_new _ _ _) (by first | omega | (simp; done) | (simp; omega)) (by first | omega | (simp; done) | (simp; omega)) ?_; intro v2 w2 hown2 hg2; have hb2 := Below_grownI (hbel1.alloc hsz1 _) (hown1.alloc _) hg2 (by first | omega | (simp; done) | (simp; omega)); have hz2 := hb2.size; clear hg2))
      go_roundw
      case rel => exact ⟨S', _, rfl, hown2, hb2, by rw [List.length_append, List.length_singleton]; omega, HST.out⟩
      case measure => simp; omega
    · have he := strC_nil (S := S) (by omega)
      have hfin := walk_end (g := fun l => [((dec l).1 : Int)]) hrel h0
      rw [tl_zero] at hfin
      have hpost : Hid (RunesIs s.data.toList w (.returned u2) wr) := ⟨u2, rfl, by rw [hfin] at hown; exact hown, hbel⟩
      clear hrel hfin hown
      go_wp2
      go_ret
      exact hpost.out
end Go.Proofs.YtnclbbgdfaeilaaGreatDoor
namespace Go.Proofs.YtnclbbgdfaeilaaGreatDoor
open Go.RowKit Pk U8

theorem enc_str (n : Nat) (h : Sca n) : Utf8.encode (n : Int) = ⟨(Lib.encodeRune (n : Int)).toArray⟩ := by
  have hv := (valid_iff n).2 h
  unfold Sca at h
  unfold Utf8.encode
  rw [if_pos hv, Int.toNat_natCast]
  by_cases h1 : n < 128
  · rw [enc_one n h1]; simp only [show n < 0x80 from h1, if_true]
  · by_cases h2 : n < 2048
    · rw [enc_two n (by omega) h2]; simp only [show ¬ n < 0x80 from h1, show n < 0x800 from h2, if_true, if_false]
    · by_cases h3 : n < 65536
      · rw [enc_three n (by omega)]; simp only [show ¬ n < 0x80 from h1, show ¬ n < 0x800 from h2, show n < 0x10000 from h3, if_true, if_false]
      · rw [enc_four n (by omega) (by omega)]; simp only [show ¬ n < 0x80 from h1, show ¬ n < 0x800 from h2, show ¬ n < 0x10000 from h3, if_false]
theorem rune_any (n : Nat) (w : World) (h : Sca n) : Calls Tryz.prog 21 #[.int .i64 n] w fun e w' => e = .returned (.string ⟨(Lib.encodeRune (n : Int)).toArray⟩) ∧ w = w' := by
  have he := Lib.hid (enc_str n h)
  have hn : n ≤ 1114111 := by unfold Sca at h; omega
  have w1 : IntKind.i32.wrap (n : Int) = (n : Int) := by rw [IntKind.wrap_i32]; omega
  have hcv := fun w => run_convert_int_string (P := Tryz.prog) w 21 9 .i32 (n : Int) (by kernel_rfl) Tryz.underlying9
  rw [he.out] at hcv
  obtain ⟨E, hE⟩ : ∃ E : ByteArray, E = ⟨(Lib.encodeRune (n : Int)).toArray⟩ := ⟨_, rfl⟩
  rw [← hE] at hcv ⊢
  clear h he hE
  go_enter Tryz.func21, Tryz.ntmps21
  go_wp2
  go_ret
  exact ⟨rfl, rfl⟩
def encsZ (ns : List Int) : List UInt8 := ns.flatMap fun n => Lib.encodeRune n
theorem encsZ_step {ns : List Int} {k : Nat} {acc X : List UInt8} (h : Hid (acc ++ encsZ (ns.drop k) = X)) (hk : k < ns.length) : Hid (acc ++ Lib.encodeRune ns[k] ++ encsZ (ns.drop (k + 1)) = X) := by
  have e := h.out
  rw [List.drop_eq_getElem_cons hk] at e
  show _ = _
  rw [← e]
  unfold encsZ
  rw [List.flatMap_cons, List.append_assoc]
theorem encsZ_end {ns : List Int} {k : Nat} {acc X : List UInt8} (h : Hid (acc ++ encsZ (ns.drop k) = X)) (hk : ¬ k < ns.length) : acc = X := by
  have e := h.out
  rw [List.drop_eq_nil_of_le (by omega)] at e
  simpa [encsZ] using e
set_option maxHeartbeats 1000000 in
theorem joined_any (v : Value) (ns : List Int) (w : World) (B : Nat) (hown : ownsI w B 3 v ns) (hl : ns.length ≤ 10000000) (hns : ∀ n ∈ ns, ∃ m : Nat, n = (m : Int) ∧ Sca m) :
    Calls Tryz.prog 37 #[v] w fun e w' => e = .returned (.string ⟨(encsZ ns).toArray⟩) ∧ Below w.heap.size w w' := by
  have HN := Lib.hid hns
  clear hns
  rcases hown.form with ⟨rfl, rfl⟩ | ⟨g, cap, rfl, hBg, hlc, hcm, hcells⟩
  · clear hown
    go_enter Tryz.func37, Tryz.ntmps37
    go_wp2
    go_loopw [8] (fun i wr => i = .int .i64 0 ∧ Bld wr w.heap.size w.heap.size [] ∧ Below w.heap.size w wr) (fun _ _ => 0)
    case atStart => exact ⟨rfl, Bld.new w, (Below.refl _ _).alloc (Nat.le_refl _) _⟩
    case round =>
      obtain ⟨rfl, hB, hbel⟩ := hrel
      have hsz := hbel.size
      go_wp2_with (go_at_call 32; (with_reducible refine (bstr _ _ _ _ hB (by omega)).mono ?_); rintro e w4 ⟨rfl, -, hb4, -⟩)
      go_ret
      exact ⟨rfl, hbel.trans hb4⟩
  · have hglt : 0 < ns.length → g < w.heap.size := fun h0 => World.block_lt_of_cell? _ _ (hcells 0 h0)
    have HC := Lib.hid hcells
    have hglt' := Lib.hid hglt
    clear hcells hown hglt
    go_enter Tryz.func37, Tryz.ntmps37
    go_wp2
    go_loopw [8] (fun i wr => ∃ (k : Nat) (acc : List UInt8), i = .int .i64 k ∧ Bld wr w.heap.size w.heap.size acc ∧ Below w.heap.size w wr ∧ k ≤ ns.length ∧ acc.length ≤ 4 * k ∧ Hid (acc ++ encsZ (ns.drop k) = encsZ (ns.drop 0))) (fun i _ => ns.length - (intOf i).toNat)
    case atStart => exact ⟨0, [], rfl, Bld.new w, (Below.refl _ _).alloc (Nat.le_refl _) _, by omega, by simp, rfl⟩
    case round =>
      obtain ⟨k, acc, rfl, hB, hbel, hk, hal, hrel⟩ := hrel
      have hsz := hbel.size
      by_cases hlt : k < ns.length
      · have hc := cell_later hbel (HC.out k hlt)
        obtain ⟨m, hm, hsm⟩ := HN.out ns[k] (List.getElem_mem _)
        have hstep := encsZ_step hrel hlt
        rw [hm] at hc hstep
        have hel := enc_len m
        obtain ⟨E, hE, hEl, hEs⟩ : ∃ E : ByteArray, E = ⟨(Lib.encodeRune (m : Int)).toArray⟩ ∧ E.data.toList = Lib.encodeRune (m : Int) ∧ E.size = (Lib.encodeRune (m : Int)).length := ⟨_, rfl, by simp, by simp [ByteArray.size]⟩
        have hrn := fun w => rune_any m w hsm
        rw [← hE] at hrn
        rw [← hEl] at hstep
        have HR := Lib.hid hrn
        have HST := Lib.hid hstep
        have hE4 : E.size ≤ 4 := by omega
        have hEl' : E.data.toList.length = E.size := rfl
        have hE5 : E.data.toList.length ≤ 4 := by omega
        clear hrel hstep hm hsm hel hrn hE hEl hEs hEl'
        go_wp2_with (first
          | (go_at_call 21; (with_reducible refine (HR.out _).mono ?_); rintro e w1 ⟨rfl, rfl⟩)
          | (go_at_call 31; (with_reducible refine (ws _ _ _ _ _ hB (by omega) (by omega)).mono ?_); rintro e w4 ⟨rfl, hB4, hb4, -⟩))
        go_roundw
        case rel => exact ⟨k + 1, _, by go_num, hB4, hbel.trans hb4, by omega, by rw [List.length_append]; omega, HST.out⟩
        case measure => simp [intOf]; omega
      · have hfin := encsZ_end hrel hlt
        rw [List.drop_zero] at hfin
        have HF := Lib.hid hfin
        clear hrel hfin
        go_wp2_with (go_at_call 32; (with_reducible refine (bstr _ _ _ _ hB (by omega)).mono ?_); rintro e w4 ⟨rfl, -, hb4, -⟩)
        go_ret
        rw [← HF.out]
        exact ⟨rfl, hbel.trans hb4⟩
theorem encsZ_runes (l : List UInt8) : encsZ (runesZ l) = repairL l := by
  rw [runesZ_eq _ l (Nat.le_refl _), repair_encs _ l (Nat.le_refl _)]
  unfold encsZ encs
  rw [List.flatMap_map]
theorem runesZ_mem (l : List UInt8) : ∀ n ∈ runesZ l, ∃ m : Nat, n = (m : Int) ∧ Sca m := by
  rw [runesZ_eq _ l (Nat.le_refl _)]
  intro n hn
  obtain ⟨m, hm, rfl⟩ := List.mem_map.1 hn
  exact ⟨m, rfl, runes_Sca _ l (Nat.le_refl _) m hm⟩
theorem runesZ_length (l : List UInt8) : (runesZ l).length ≤ l.length := by
  rw [runesZ_eq _ l (Nat.le_refl _), List.length_map]; exact runes_length l
theorem repairP_any (s : ByteArray) (w : World) (hT : Tabs w) (hs : s.size ≤ 10000000) : Calls Tryz.prog 12 #[.string s] w fun e w' => e = .returned (.string ⟨(repairL s.data.toList).toArray⟩) ∧ Below w.heap.size w w' := by
  have hr := Lib.hid (runesP_any s w hT hs)
  have hlen : (runesZ s.data.toList).length ≤ 10000000 := by
    have := runesZ_length s.data.toList
    have h2 : s.data.toList.length = s.size := rfl
    omega
  have HM := Lib.hid (runesZ_mem s.data.toList)
  have HE := Lib.hid (encsZ_runes s.data.toList)
  clear hT
  go_enter Tryz.func12, Tryz.ntmps12
  go_wp2_with (first
    | (go_at_call 19; (with_reducible refine hr.out.mono ?_); rintro e w1 ⟨v, rfl, hown, hb1⟩; have z1 := hb1.size)
    | (go_at_call 37; (with_reducible refine (joined_any _ _ _ _ hown hlen HM.out).mono ?_); rintro e w2 ⟨rfl, hb2⟩))
  go_ret
  rw [← HE.out]
  exact ⟨rfl, hb1.trans (hb2.mono z1)⟩
end Go.Proofs.YtnclbbgdfaeilaaGreatDoor
