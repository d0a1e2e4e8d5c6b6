/- Walks: charset: Runes, Rune, joined, Repair. -/
import Derived.Test.YtafmldooephmaaaDoorRows
import Derived.Test.YtafmldooephmaaaDoorShelf
import Derived.Test.YtafmldooephmaaaDoorBld
import Derived.Test.YtafmldooephmaaaDoorUtx
import Derived.Deep.QuietTactic
import Derived.BigQuiet
import Derived.WalkSmall
import Derived.Shelf.Unicode.ValidAny
namespace Go.Proofs.YtafmldooephmaaaDoor
open Go.RowKit Pk U8

theorem islC : IntSl Tryd.prog 42 3 where
  ht := Tryd.underlying42
  hi := info_parts (show (Tryd.prog.info? 3).map (fun i => (i.zero, i.size, i.bytes)) = some (some (.int .i64 0), 1, 8) by kernel_rfl)
theorem ownsI_below {w w' : World} {B C : Nat} {e : TypeId} {v : Value} {l : List Int} (h : ownsI w B e v l) (hb : Below C w w') (hC : w.heap.size ≤ C) : ownsI w' B e v l := by
  refine ⟨h.1, ?_⟩
  rcases h.2 with hn | ⟨g, cap, cur, h1, h2, h3, h4⟩
  · exact .inl hn
  · have hg : g < w.heap.size := lt_of_block h3
    exact .inr ⟨g, cap, cur, h1, h2, (hb.block g (by omega)).trans h3, h4⟩
def Tabs (w : World) : Prop := Lib.Utf8Tabs 0 1 w
theorem Tabs.later {w w' : World} (h : Tabs w) (hb : Below w.heap.size w w') : Tabs w' := Utf8Tabs_below h hb
/-- runes as ints -/
def runesZ (l : List UInt8) : List Int := walk (fun l => [((dec l).1 : Int)]) l
theorem runesZ_eq : ∀ (n : Nat) (l : List UInt8), l.length ≤ n → runesZ l = (runes l).map fun (n : Nat) => (n : Int) := by
  intro n
  induction n with
  | zero => intro l h; have : l = [] := List.eq_nil_of_length_eq_zero (by omega); subst this; rfl
  | succ n ih =>
    intro l h
    by_cases he : l = []
    · subst he; rfl
    · have hw := dec_width l he
      have := ih (l.drop (dec l).2) (by rw [List.length_drop]; omega)
      unfold runesZ runes at *
      rw [walk_cons _ l he, walk_cons _ l he, this, List.map_append]
      rfl
def NextIs (s : ByteArray) (w : World) (e : Ending) (w' : World) : Prop := ∃ ok : Bool, e = .returned (.tuple #[.int .i64 (dec (tl s 0)).1, .string (s.extract (dec (tl s 0)).2 s.size), .bool ok]) ∧ Below w.heap.size w w'
set_option maxHeartbeats 1000000 in
theorem next_any (s : ByteArray) (w : World) (hT : Tabs w) (h0 : 0 < s.size) (hs : s.size ≤ 100000000) : Calls Tryd.prog 49 #[.string s] w (NextIs s w) := by
  have hd := Tryd.utf8_DecodeRuneInString s w hT
  have e : Lib.decodeGo s = dec (tl s 0) := by unfold Lib.decodeGo; rw [if_neg (by omega), dec_eq]
  rw [e] at hd
  obtain ⟨wd1, wd2, wd3⟩ := width_le h0
  obtain ⟨R, hR⟩ : ∃ R, R = dec (tl s 0) := ⟨_, rfl⟩
  have hsca := dec_rune (tl s 0) (tl_ne h0)
  rw [← hR] at hd wd1 wd2 wd3 hsca
  have hr4 : R.1 ≤ 1114111 := by unfold Sca at hsca; omega
  have HD := Lib.hid hd
  have HR := Lib.hid hR
  clear hd e hR hT
  have hfin : Hid (∀ ok w', Below w.heap.size w w' → NextIs s w (.returned (.tuple #[.int .i64 R.1, .string (s.extract R.2 s.size), .bool ok])) w') := fun ok w' hb => ⟨ok, by rw [HR.out], hb⟩
  by_cases h5 : R.1 = 65533
  · have q1 : ((R.1 : Int) != 65533) = false := by rw [bne_eq_false_iff_eq]; omega
    clear h5
    go_enter Tryd.func49, Tryd.ntmps49
    go_wp2_with (go_at_call 74; (with_reducible refine HD.out.mono ?_); rintro e w1 ⟨rfl, hb1⟩)
    go_quiet (fail)
    go_wp2
    go_ret3
    exact hfin.out _ _ ⟨hb1.os, hb1.tape, hb1.output, hb1.size, hb1.block⟩
  · have q1 : ((R.1 : Int) != 65533) = true := bne_iff_ne.2 (by omega)
    clear h5
    go_enter Tryd.func49, Tryd.ntmps49
    go_wp2_with (go_at_call 74; (with_reducible refine HD.out.mono ?_); rintro e w1 ⟨rfl, hb1⟩)
    go_quiet (fail)
    go_wp2
    go_ret3
    exact hfin.out _ _ ⟨hb1.os, hb1.tape, hb1.output, hb1.size, hb1.block⟩
theorem strC_nil {S : ByteArray} (h : S.size = 0) : S.toList = [] := by
  rw [Lib.toList_data]; exact List.eq_nil_of_length_eq_zero h
theorem strC_ne {S : ByteArray} (h : 0 < S.size) : S.toList.isEmpty = false := by
  rw [Lib.toList_data]
  have : S.data.toList.length = S.size := rfl
  cases hd : S.data.toList with
  | nil => rw [hd] at this; simp at this; omega
  | cons c r => rfl
theorem extC_tl (s : ByteArray) (p : Nat) : tl (s.extract p s.size) 0 = tl s p := by
  rw [tl_zero]
  rw [show (s.extract p s.size).data.toList = (s.data.toList.drop p).take (s.size - p) by rw [← Lib.extract_toList, Lib.toList_data]]
  rw [List.take_of_length_le (by rw [List.length_drop]; exact Nat.le_refl _)]; rfl
theorem extC_size (s : ByteArray) (p : Nat) (h : p ≤ s.size) : (s.extract p s.size).size = s.size - p := by rw [ByteArray.size_extract]; omega
def RunesIs (l : List UInt8) (w : World) (e : Ending) (w' : World) : Prop := ∃ v, e = .returned v ∧ ownsI w' w.heap.size 3 v (runesZ l) ∧ Below w.heap.size w w'
set_option maxHeartbeats 1000000 in
theorem runesP_any (s : ByteArray) (w : World) (hT : Tabs w) (hs : s.size ≤ 10000000) : Calls Tryd.prog 24 #[.string s] w (RunesIs s.data.toList w) := by
  have HT := Lib.hid hT
  clear hT
  go_enter Tryd.func24, Tryd.ntmps24
  go_wp2
  go_loopw [0, 2, 3] (fun sv lv _ wr => ∃ (S : ByteArray) (acc : List Int), sv = .string S ∧ ownsI wr w.heap.size 3 lv acc ∧ Below w.heap.size w wr ∧ acc.length + S.size ≤ s.size ∧ Hid (acc ++ runesZ (tl S 0) = runesZ (tl s 0))) (fun sv _ _ _ => match sv with | .string S => S.size | _ => 0)
  case atStart => exact ⟨s, [], rfl, ownsI.nil _ _ _, Below.refl _ _, by simp, rfl⟩
  case round =>
    obtain ⟨S, acc, rfl, hown, hbel, hal, hrel⟩ := hrel
    have hsz := hbel.size
    by_cases h0 : 0 < S.size
    · have hne := strC_ne h0
      obtain ⟨wd1, wd2, wd3⟩ := width_le h0
      have hstep := walk_step (g := fun l => [((dec l).1 : Int)]) hrel h0
      have hnx := Lib.hid (next_any S wr (HT.out.later hbel) h0 (by omega))
      obtain ⟨R, hR⟩ : ∃ R, R = dec (tl S 0) := ⟨_, rfl⟩
      rw [← hR] at hstep wd1 wd2 wd3
      unfold NextIs at hnx
      rw [← hR] at hnx
      have hex := extC_tl S R.2
      have hexs := extC_size S R.2 (by omega)
      obtain ⟨S', hS'⟩ : ∃ S', S.extract R.2 S.size = S' := ⟨_, rfl⟩
      rw [hS'] at hex hexs hnx
      rw [Nat.zero_add, ← hex] at hstep
      have HST := Lib.hid hstep
      have hs1 : S'.size + R.2 ≤ S.size := by omega
      have hs2 : S'.size < S.size := by omega
      clear hrel hstep hR hex hexs hS'
      go_wp2_with (first
        | (go_at_call 49; (with_reducible refine hnx.out.mono ?_); rintro e w1 ⟨ok, rfl, hb1⟩; have hown1 := ownsI_below hown hb1 (Nat.le_refl _); have hbel1 := hbel.trans (hb1.mono hsz); have hsz1 := hbel1.size)
        | (at_builtin; refine append_int _ rfl (.tmp 12) (.tmp 14) islC rfl w.heap.size _ _ rfl (hown1.alloc _) ⟨_, 0, none⟩ 1 1 [(R.1 : Int)] rfl rfl (cells_new _ _ _) (by first | omega | (simp; done) | (simp; omega)) (by first | omega | (simp; done) | (simp; omega)) ?_; intro v2 w2 hown2 hg2; have hb2 := Below_grownI (hbel1.alloc hsz1 _) (hown1.alloc _) hg2 (by first | omega | (simp; done) | (simp; omega)); have hz2 := hb2.size; clear hg2))
      go_roundw
      case rel => exact ⟨S', _, rfl, hown2, hb2, by rw [List.length_append, List.length_singleton]; omega, HST.out⟩
      case measure => simp; omega
    · have he := strC_nil (S := S) (by omega)
      have hfin := walk_end (g := fun l => [((dec l).1 : Int)]) hrel h0
      rw [tl_zero] at hfin
      have hpost : Hid (RunesIs s.data.toList w (.returned u2) wr) := ⟨u2, rfl, by rw [hfin] at hown; exact hown, hbel⟩
      clear hrel hfin hown
      go_wp2
      go_ret
      exact hpost.out
end Go.Proofs.YtafmldooephmaaaDoor
