/- Plain and walks: a mail session's words: upper case, beginnings. Walks: a mail session's words: cut, word. Walks: a mail session's words: path, may. Walks: a mail session: may, reply. -/
import Derived.Test.YtjoipgekmnnlpaaGreatDoorSmI
import Derived.Lib.MapLaws
import Derived.Lib.TrimAscii
import Derived.Shelf.Strings.SlTrimAscii
import Derived.Test.YtjoipgekmnnlpaaGreatDoorStrK
import Derived.Lib.ConvBytes
import Derived.Test.YtjoipgekmnnlpaaGreatDoorNumP
import Derived.Deep.RegionHeld3
import Derived.Maps.Own
namespace Sm
open Go U8 Pk

/-- upper case of a rune -/
def upR (r : Int) : Int := if 97 ≤ r ∧ r ≤ 122 then r + 65 - 97 else r
theorem upR_low (c : UInt8) (h : c.toNat < 128) : upR (c.toNat : Int) = ((up c).toNat : Int) ∧ (up c).toNat < 128 := by
  unfold upR up
  by_cases h1 : 97 ≤ c.toNat ∧ c.toNat ≤ 122
  · rw [if_pos h1, if_pos (by omega)]
    have : (c - 32).toNat = c.toNat - 32 := by
      rw [UInt8.toNat_sub_of_le]
      · rfl
      · rw [UInt8.le_iff_toNat_le]; show 32 ≤ c.toNat; omega
    rw [this]
    omega
  · rw [if_neg h1, if_neg (by omega)]
    exact ⟨rfl, h⟩
theorem up_high (c : UInt8) (h : 128 ≤ c.toNat) : up c = c := by unfold up; rw [if_neg (by omega)]
theorem decL_eq (l : List UInt8) : Lib.decodeL l = dec l := by
  unfold Lib.decodeL
  rw [dec_eq, tl_zero]
def Asc (l : List UInt8) : Prop := ∀ c ∈ l, c.toNat < 128
theorem mapD_low (c : UInt8) (r : List UInt8) (h : c.toNat < 128) : Lib.mapD upR (c :: r) = up c :: Lib.mapD upR r := by
  rw [Lib.mapD_step upR (c :: r) (by simp), decL_eq, dec_asc h]
  obtain ⟨h1, h2⟩ := upR_low c h
  show (if 0 ≤ upR (c.toNat : Int) then Lib.encodeRune (upR (c.toNat : Int)) else []) ++ Lib.mapD upR r = _
  rw [h1, if_pos (by omega), enc_one _ h2, UInt8.ofNat_toNat]
  rfl
theorem mapD_high (c : UInt8) (r : List UInt8) (h : 128 ≤ c.toNat) : ∃ d t, Lib.mapD upR (c :: r) = d :: t ∧ 128 ≤ d.toNat := by
  have hne : c :: r ≠ [] := by simp
  have h1 := dec_high hne (show 128 ≤ at' (c :: r) 0 by rw [at_cons0]; exact h)
  have h2 := dec_rune _ hne
  have h3 : upR ((dec (c :: r)).1 : Int) = ((dec (c :: r)).1 : Int) := by unfold upR; rw [if_neg (by omega)]
  rw [Lib.mapD_step upR (c :: r) hne, decL_eq, h3, if_pos (by omega)]
  have h4 := enc_high _ h2 h1
  have h5 := (Lib.encodeRuneZ_length ((dec (c :: r)).1 : Int)).1
  cases he : Lib.encodeRune ((dec (c :: r)).1 : Int) with
  | nil =>
    unfold Lib.encodeRune at he
    have := congrArg List.length he
    rw [List.length_map] at this
    simp at this
    rw [this] at h5
    simp at h5
  | cons d t =>
    rw [he] at h4
    exact ⟨d, t ++ _, rfl, h4 d (by simp)⟩
/-- upper case against ASCII letters -/
theorem map_iff : ∀ (l B : List UInt8), Asc B → (Lib.mapD upR l = B ↔ l.map up = B)
  | [], B, _ => by rw [Lib.mapD_nil]; exact Iff.rfl
  | c :: r, B, hB => by
    by_cases h : c.toNat < 128
    · rw [mapD_low c r h, List.map_cons]
      cases B with
      | nil => simp
      | cons b t =>
        have ih := map_iff r t fun x hx => hB x (by simp [hx])
        rw [List.cons.injEq, List.cons.injEq, ih]
    · obtain ⟨d, t, h1, h2⟩ := mapD_high c r (by omega)
      rw [h1, List.map_cons, up_high c (by omega)]
      cases B with
      | nil => simp
      | cons b t' =>
        have hb := hB b (by simp)
        refine ⟨fun e => ?_, fun e => ?_⟩
        · injection e with e _
          rw [e] at h2
          omega
        · injection e with e _
          rw [e] at h
          omega
theorem map_asc (l : List UInt8) (h : Asc (Lib.mapD upR l)) : l.map up = Lib.mapD upR l := (map_iff l _ h).1 rfl
end Sm
namespace Go.Proofs.YtjoipgekmnnlpaaGreatDoor
open Go.RowKit Go.Shelf Go.Lib Pk U8 Sm

theorem great1_any (w : World) : MapAtRunes Tryz.prog 98 #[] upR w := by
  intro W x hx hb
  unfold FnGives
  have hw1 : IntKind.i32.wrap ((x : Int) + 65) = (x : Int) + 65 := by rw [IntKind.wrap_i32]; omega
  have hw2 : IntKind.i32.wrap ((x : Int) + 65 - 97) = (x : Int) + 65 - 97 := by rw [IntKind.wrap_i32]; omega
  unfold upR
  by_cases h : 97 ≤ (x : Int) ∧ (x : Int) ≤ 122
  · obtain ⟨h1, h2⟩ := h
    rw [if_pos ⟨h1, h2⟩]
    have q1 : decide ((97 : Int) ≤ (x : Int)) = true := decide_eq_true h1
    have q2 : decide ((x : Int) ≤ 122) = true := decide_eq_true h2
    go_enter Tryz.func98, Tryz.ntmps98
    go_wp2
    go_ret
    exact ⟨rfl, 0, rfl⟩
  · rw [if_neg h]
    by_cases h1 : 97 ≤ (x : Int)
    · have q1 : decide ((97 : Int) ≤ (x : Int)) = true := decide_eq_true h1
      have q2 : decide ((x : Int) ≤ 122) = false := decide_eq_false (by omega)
      go_enter Tryz.func98, Tryz.ntmps98
      go_wp2
      go_ret
      exact ⟨rfl, 0, rfl⟩
    · have q1 : decide ((97 : Int) ≤ (x : Int)) = false := decide_eq_false h1
      go_enter Tryz.func98, Tryz.ntmps98
      go_wp2
      go_ret
      exact ⟨rfl, 0, rfl⟩
def U8T (w : World) : Prop := Lib.Utf8Tabs 5 6 w
theorem great_any (s : ByteArray) (w : World) (hs : s.size ≤ 1000000) (hT : U8T w) : Calls Tryz.prog 69 #[.string s] w fun e w' => e = .returned (.string ⟨(Lib.mapD upR s.data.toList).toArray⟩) ∧ Below w.heap.size w w' := by
  have H := Lib.hid (Tryz.strings_Map_runes 98 #[] (fun args w => by kernel_rfl) upR s w (by omega) (great1_any w) (fun x hx => by unfold upR; split <;> omega) hT)
  clear hT
  go_enter Tryz.func69, Tryz.ntmps69
  go_wp2_with fail
  refine H.out.mono ?_
  rintro e w1 ⟨rfl, hb1⟩
  go_wp2
  go_ret
  exact ⟨rfl, hb1⟩
end Go.Proofs.YtjoipgekmnnlpaaGreatDoor
namespace Go.Proofs.YtjoipgekmnnlpaaGreatDoor
open Go.RowKit Go.Shelf Go.Lib Pk U8 Sm

def bt (l : List UInt8) : ByteArray := ⟨l.toArray⟩
theorem bt_data (l : List UInt8) : (bt l).data.toList = l := by simp [bt]
theorem bt_back (s : ByteArray) : bt s.data.toList = s := by unfold bt; simp
theorem bt_ex (l : List UInt8) : ∃ A : ByteArray, A = bt l ∧ A.data.toList = l ∧ A.size = l.length := ⟨bt l, rfl, bt_data l, by unfold bt; simp [ByteArray.size]⟩
theorem size_len (s : ByteArray) : s.data.toList.length = s.size := Array.length_toList
theorem below_drawN (w : World) (n : Nat) : Below w.heap.size w (w.drewN n) := ⟨rfl, rfl, rfl, Nat.le_refl _, fun _ _ => rfl⟩
theorem U8T.later {w w' : World} (h : U8T w) (hb : Below w.heap.size w w') : U8T w' := Utf8Tabs_below h hb
/-- what cut hands out -/
def CutIs (o : Option (List UInt8)) (s : ByteArray) (w : World) (e : Ending) (w' : World) : Prop :=
  (match o with | some r => e = .returned (.tuple #[.string (bt r), .bool true]) | none => e = .returned (.tuple #[.string s, .bool false])) ∧ Below w.heap.size w w'
theorem beginW_short {b l : List UInt8} (h : l.length < b.length) : beginW b l = none := by
  unfold beginW
  rw [if_neg]
  intro e
  have := congrArg List.length e
  rw [List.length_map, List.length_take] at this
  omega
set_option maxHeartbeats 1000000 in
set_option maxRecDepth 100000 in
theorem cutS_any (s B : ByteArray) (w : World) (hs : s.size ≤ 1000000) (hB : Asc B.data.toList) (hT : U8T w) : Calls Tryz.prog 122 #[.string s, .string B] w (CutIs (beginW B.data.toList s.data.toList) s w) := by
  by_cases h : s.size < B.size
  · rw [beginW_short (by rw [size_len, size_len]; exact h)]
    have q1 : decide ((s.size : Int) < (B.size : Int)) = true := decide_eq_true (by omega)
    have q1' : decide (s.size < B.size) = true := decide_eq_true h
    clear h hT hB
    go_enter Tryz.func122, Tryz.ntmps122
    go_wp2
    go_ret2
    exact ⟨rfl, Below.refl _ _⟩
  · have q1 : decide ((s.size : Int) < (B.size : Int)) = false := decide_eq_false (by omega)
    have q1' : decide (s.size < B.size) = false := decide_eq_false h
    have hX : (s.extract 0 B.size).data.toList = s.data.toList.take B.data.toList.length := by
      rw [ext_to, size_len]
    have hG := great_any (s.extract 0 B.size) w (by rw [ByteArray.size_extract]; omega) hT
    obtain ⟨G, hGe, hGd, -⟩ := bt_ex (Lib.mapD upR (s.extract 0 B.size).data.toList)
    have hG2 : (⟨(Lib.mapD upR (s.extract 0 B.size).data.toList).toArray⟩ : ByteArray) = G := hGe.symm
    rw [hG2] at hG
    have hiff : (G.data.toList = B.data.toList) ↔ (s.data.toList.take B.data.toList.length).map up = B.data.toList := by
      rw [hGd, hX]
      exact map_iff _ _ hB
    have HG := Lib.hid hG
    have u1 : (0 : Int) ≤ (B.size : Int) := by omega
    have u2 : (B.size : Int) ≤ (s.size : Int) := by omega
    have htl : (G.toList == B.toList) = (G.data.toList == B.data.toList) := by rw [Lib.toList_data, Lib.toList_data]
    by_cases he : G.data.toList = B.data.toList
    · have hb : beginW B.data.toList s.data.toList = some (s.data.toList.drop B.data.toList.length) := by unfold beginW; rw [if_pos (hiff.1 he)]
      rw [hb]
      have q2 : (G.toList == B.toList) = true := by rw [htl]; exact beq_iff_eq.2 he
      have HR := Lib.hid (show s.extract B.size s.size = bt (s.data.toList.drop B.data.toList.length) by rw [← bt_back (s.extract B.size s.size), ext_from, size_len])
      clear hG hGe hGd hG2 hX hiff htl he hb hT hB
      go_enter Tryz.func122, Tryz.ntmps122
      go_wp2_with fail
      refine HG.out.mono ?_
      rintro e w1 ⟨rfl, hb1⟩
      go_wp2
      go_ret2
      exact ⟨by show Ending.returned (.tuple #[.string (s.extract B.size s.size), .bool true]) = _; rw [HR.out], hb1⟩
    · have hb : beginW B.data.toList s.data.toList = none := by unfold beginW; rw [if_neg (fun e => he (hiff.2 e))]
      rw [hb]
      have q2 : (G.toList == B.toList) = false := by rw [htl]; exact beq_eq_false_iff_ne.2 he
      clear hG hGe hGd hG2 hX hiff htl he hb hT hB
      go_enter Tryz.func122, Tryz.ntmps122
      go_wp2_with fail
      refine HG.out.mono ?_
      rintro e w1 ⟨rfl, hb1⟩
      go_wp2
      go_ret2
      exact ⟨rfl, hb1⟩
theorem trimS_any (x : ByteArray) (w : World) (h : x.size ≤ 1000000) :
    Calls Tryz.prog 89 #[.string x, .string ⟨#[32, 9]⟩] w fun e w' => e = .returned (.string (bt (trimW x.data.toList))) ∧ Below w.heap.size w w' := by
  have := Any.strings_Trim_laid Tryz.lays160 (by kernel_rfl) x ⟨#[32, 9]⟩ w (by omega) (by decide) (by
    intro j b h
    rcases j with _ | _ | j <;> simp at h <;> subst h <;> decide)
  have e : (Lib.trimS x.data.toList (⟨#[32, 9]⟩ : ByteArray).data.toList) = trimW x.data.toList := by
    unfold Lib.trimS Lib.trimLeftS Lib.trimRightS trimW
    have hf : ((⟨#[32, 9]⟩ : ByteArray).data.toList.contains ·) = blk := funext fun b => blB_has b
    rw [hf]
  rw [e] at this
  exact this
theorem trimW_le (l : List UInt8) : (trimW l).length ≤ l.length := by
  unfold trimW
  have h1 := (List.dropWhile_sublist blk (l := (l.reverse.dropWhile blk).reverse)).length_le
  have h2 := (List.dropWhile_sublist blk (l := l.reverse)).length_le
  rw [List.length_reverse] at h1 h2
  omega
theorem take_first : ∀ l : List UInt8, l.takeWhile (fun c => !blk c) = l.take (firstB l) ∧ l.dropWhile (fun c => !blk c) = l.drop (firstB l)
  | [] => ⟨rfl, rfl⟩
  | c :: r => by
    obtain ⟨h1, h2⟩ := take_first r
    cases hb : blk c with
    | true => rw [firstB_stop r hb, List.takeWhile_cons, List.dropWhile_cons, hb]; exact ⟨rfl, rfl⟩
    | false =>
      have e : firstB (c :: r) = firstB r + 1 := by have := firstB_skip [c] r (by simpa using hb); rw [show [c] ++ r = c :: r from rfl] at this; rw [this]; simp; omega
      rw [e, List.takeWhile_cons, List.dropWhile_cons, hb, List.take_succ_cons, List.drop_succ_cons]
      exact ⟨by rw [← h1]; rfl, h2⟩
/-- what word hands out -/
def WordIs (l : List UInt8) (w : World) (e : Ending) (w' : World) : Prop := e = .returned (.tuple #[.string (bt (wordW l).1), .string (bt (wordW l).2)]) ∧ Below w.heap.size w w'
set_option maxHeartbeats 1000000 in
set_option maxRecDepth 100000 in
theorem wordS_any (s : ByteArray) (w : World) (hs : s.size ≤ 1000000) : Calls Tryz.prog 58 #[.string s] w (WordIs s.data.toList w) := by
  have hT := trimS_any s w hs
  obtain ⟨T, hTe, hTd, hTs⟩ := bt_ex (trimW s.data.toList)
  rw [← hTe] at hT
  have hTz : T.size ≤ 1000000 := by rw [hTs]; have := trimW_le s.data.toList; rw [size_len] at this; omega
  have hI := fun W => ix_any T W hTz
  unfold IxIs at hI
  obtain ⟨t1, t2⟩ := take_first T.data.toList
  have hle := firstB_le T.data.toList
  rw [size_len] at hle
  have hix : ixW T.data.toList = if firstB T.data.toList < T.size then (firstB T.data.toList : Int) else -1 := by unfold ixW; rw [size_len]
  rw [hix] at hI
  have hw1 : (wordW s.data.toList).1 = T.data.toList.take (firstB T.data.toList) := by unfold wordW; rw [hTd] at t1 ⊢; exact t1
  have hw2 : (wordW s.data.toList).2 = trimW (T.data.toList.drop (firstB T.data.toList)) := by unfold wordW; rw [hTd] at t2 ⊢; rw [t2]
  unfold WordIs
  rw [hw1, hw2]
  have HT := Lib.hid hT
  generalize firstB T.data.toList = k at *
  by_cases hk : k < T.size
  · simp only [if_pos hk] at hI
    have HI := Lib.hid hI
    have hR := fun W => trimS_any (T.extract k T.size) W (by rw [ByteArray.size_extract]; omega)
    have hX : (T.extract k T.size).data.toList = T.data.toList.drop k := ext_from T k
    rw [hX] at hR
    have HR := Lib.hid hR
    have HA := Lib.hid (show T.extract 0 k = bt (T.data.toList.take k) from ext_to T k)
    have q1 : decide ((0 : Int) ≤ (k : Int)) = true := decide_eq_true (by omega)
    have u1 : (0 : Int) ≤ (k : Int) := by omega
    have u2 : (k : Int) ≤ (T.size : Int) := by omega
    clear hT hI hR hX hix hw1 hw2 t1 t2 hTe hTd hTs hle
    go_enter Tryz.func58, Tryz.ntmps58
    go_wp2_with fail
    refine HT.out.mono ?_
    rintro e w1 ⟨rfl, hb1⟩
    go_wp2_with fail
    refine (HI.out w1).mono ?_
    rintro e w2 ⟨rfl, hb2⟩
    have hb12 := hb1.trans (hb2.mono hb1.size)
    go_wp2_with fail
    go_region_with (go_at_call 89; (with_reducible refine (HR.out _).mono ?_); rintro e w3 ⟨rfl, hb3⟩)
    all_goals
      go_wp2
      go_ret2
      exact ⟨by show Ending.returned (.tuple #[.string (T.extract 0 k), .string (bt (trimW (List.drop k T.data.toList)))]) = _; rw [HA.out], by first | exact hb12.trans (hb3.mono hb12.size) | exact hb12.trans ((Below.refl _ _).drew.trans (hb3.mono (Nat.le_refl _)) |>.mono hb12.size)⟩
  · simp only [if_neg hk] at hI
    have HI := Lib.hid hI
    have HA := Lib.hid (show T = bt (T.data.toList.take k) by rw [List.take_of_length_le (by rw [size_len]; omega), bt_back])
    have HB := Lib.hid (show (⟨#[]⟩ : ByteArray) = bt (trimW (T.data.toList.drop k)) by rw [List.drop_eq_nil_of_le (by rw [size_len]; omega)]; rfl)
    clear hT hI hix hw1 hw2 t1 t2 hTe hTd hTs hle
    go_enter Tryz.func58, Tryz.ntmps58
    go_wp2_with fail
    refine HT.out.mono ?_
    rintro e w1 ⟨rfl, hb1⟩
    go_wp2_with fail
    refine (HI.out w1).mono ?_
    rintro e w2 ⟨rfl, hb2⟩
    have hb12 := hb1.trans (hb2.mono hb1.size)
    go_wp2
    go_ret2
    exact ⟨by rw [← HA.out, ← HB.out]; rfl, hb12⟩
end Go.Proofs.YtjoipgekmnnlpaaGreatDoor
namespace Sm
open Go
theorem cut_nilS {sep : List UInt8} (h : sep ≠ []) : Lib.cut [] sep = ([], [], false) := by
  cases sep with
  | nil => exact absurd rfl h
  | cons a r => rfl
theorem cut_at (d c : UInt8) (r : List UInt8) : Lib.cut (c :: r) [d] = if c = d then ([], r, true) else (c :: (Lib.cut r [d]).1, (Lib.cut r [d]).2.1, (Lib.cut r [d]).2.2) := by
  have hge := Lib.index_ge r [d]
  have hi : Lib.index (c :: r) [d] = if c = d then 0 else if Lib.index r [d] = -1 then -1 else Lib.index r [d] + 1 := by
    rw [Lib.index]
    by_cases h : c = d
    · subst h
      simp [List.isPrefixOf]
    · have : (([d] : List UInt8).isPrefixOf (c :: r)) = false := by simp [List.isPrefixOf]; exact fun e => h e.symm
      rw [this, if_neg h]
      simp
  unfold Lib.cut
  rw [hi]
  by_cases h : c = d
  · rw [if_pos h, if_pos h]; simp
  · rw [if_neg h, if_neg h]
    by_cases h2 : Lib.index r [d] = -1
    · rw [if_pos h2, h2]; simp
    · rw [if_neg h2, if_pos (by omega), if_pos (by omega)]
      have : (Lib.index r [d] + 1).toNat = (Lib.index r [d]).toNat + 1 := by omega
      rw [this]
      simp
theorem cut_eq (d : UInt8) : ∀ l : List UInt8, Lib.cut l [d] = if l.dropWhile (fun c => decide (c ≠ d)) = [] then (l, [], false) else (l.takeWhile (fun c => decide (c ≠ d)), (l.dropWhile (fun c => decide (c ≠ d))).tail, true)
  | [] => by rw [cut_nilS (by simp)]; rfl
  | c :: r => by
    have ih := cut_eq d r
    rw [cut_at]
    by_cases h : c = d
    · subst h
      rw [if_pos rfl]
      simp only [List.dropWhile_cons, List.takeWhile_cons, show decide (c ≠ c) = false from decide_eq_false (by simp)]
      rfl
    · rw [if_neg h]
      simp only [List.dropWhile_cons, List.takeWhile_cons, show decide (c ≠ d) = true from decide_eq_true h, if_true]
      rw [ih]
      split <;> rfl
theorem pathW_cons (c : UInt8) (l : List UInt8) : pathW (c :: l) = if c = 60 ∧ (l.dropWhile (fun c => decide (c ≠ 62))) ≠ [] ∧ (l.takeWhile (fun c => decide (c ≠ 62))).all okA = true then some (l.takeWhile (fun c => decide (c ≠ 62)), (l.dropWhile (fun c => decide (c ≠ 62))).tail) else none := rfl
theorem pathW_pre (y : List UInt8) (h : Lib.hasPrefix y [60] = false) : pathW y = none := by
  cases y with
  | nil => rfl
  | cons c r =>
    rw [pathW_cons, if_neg]
    rintro ⟨rfl, -⟩
    simp [Lib.hasPrefix, List.isPrefixOf] at h
theorem pathW_yes (y : List UInt8) (h : Lib.hasPrefix y [60] = true) : pathW y = if (Lib.cut (Lib.trimPrefix y [60]) [62]).2.2 = true ∧ (Lib.cut (Lib.trimPrefix y [60]) [62]).1.all okA = true then some ((Lib.cut (Lib.trimPrefix y [60]) [62]).1, (Lib.cut (Lib.trimPrefix y [60]) [62]).2.1) else none := by
  cases y with
  | nil => simp [Lib.hasPrefix, List.isPrefixOf] at h
  | cons c r =>
    have hc : c = 60 := by simp [Lib.hasPrefix, List.isPrefixOf] at h; exact h.symm
    subst hc
    have ht : Lib.trimPrefix (60 :: r) [60] = r := by unfold Lib.trimPrefix; rw [h]; rfl
    rw [ht, cut_eq, pathW_cons]
    by_cases hd : r.dropWhile (fun c => decide (c ≠ 62)) = []
    · rw [if_pos hd, if_neg (fun e => e.2.1 hd), if_neg (by simp)]
    · rw [if_neg hd]
      by_cases ha : (r.takeWhile (fun c => decide (c ≠ 62))).all okA = true
      · rw [if_pos ⟨rfl, hd, ha⟩, if_pos ⟨rfl, ha⟩]
      · rw [if_neg (fun e => ha e.2.2), if_neg (fun e => ha e.2)]
theorem cut_len (l : List UInt8) (d : UInt8) : (Lib.cut l [d]).1.length ≤ l.length ∧ (Lib.cut l [d]).2.1.length ≤ l.length := by
  rw [cut_eq]
  have h1 := (List.takeWhile_sublist (fun c => decide (c ≠ d)) (l := l)).length_le
  have h2 := (List.dropWhile_sublist (fun c => decide (c ≠ d)) (l := l)).length_le
  split
  · exact ⟨Nat.le_refl _, Nat.zero_le _⟩
  · refine ⟨h1, ?_⟩
    show (List.tail _).length ≤ _
    rw [List.length_tail]; omega
end Sm
namespace Go.Proofs.YtjoipgekmnnlpaaGreatDoor
open Go.RowKit Go.Shelf Go.Lib Pk U8 Sm

theorem trimL_any (x : ByteArray) (w : World) :
    Calls Tryz.prog 124 #[.string x, .string ⟨#[32, 9]⟩] w fun e w' => e = .returned (.string (bt (x.data.toList.dropWhile blk))) ∧ Below w.heap.size w w' := by
  have := Any.strings_TrimLeft_laid Tryz.lays161 (by kernel_rfl) x ⟨#[32, 9]⟩ w (by decide) (by
    intro j b h
    rcases j with _ | _ | j <;> simp at h <;> subst h <;> decide)
  have e : (Lib.trimLeftS x.data.toList (⟨#[32, 9]⟩ : ByteArray).data.toList) = x.data.toList.dropWhile blk := by
    unfold Lib.trimLeftS
    have hf : ((⟨#[32, 9]⟩ : ByteArray).data.toList.contains ·) = blk := funext fun b => blB_has b
    rw [hf]
  rw [e] at this
  exact this
theorem conv_bytesM (w : World) (s : ByteArray) : ∃ cp w2, (convert 9 67 (.string s)).run Tryz.prog w = .ok (.slice (some ⟨w.heap.size, 0, none⟩) s.size cp) w2 ∧ (∀ j (hj : j < s.size), w2.cell? ⟨w.heap.size, j, none⟩ = some (.int .u8 s[j].toNat)) ∧ Below w.heap.size w w2 ∧ w.heap.size < w2.heap.size := by
  refine ⟨_, _, Lib.run_convert_string_bytes w 9 67 5 s Tryz.underlying9 Tryz.underlying67 Tryz.underlying5, fun j hj => ?_, Lib.bytesWorld_below _ _ _, by rw [Lib.bytesWorld_size]; omega⟩
  rw [Lib.bytesWorld_cell _ _ _ _ hj]
  have : s.data.toList.getD j 0 = s[j] := by
    rw [List.getD_eq_getElem?_getD, List.getElem?_eq_getElem (by show j < s.size; exact hj)]; rfl
  rw [this]
/-- what path hands out -/
def PathIs (o : Option (List UInt8 × List UInt8)) (w : World) (e : Ending) (w' : World) : Prop :=
  e = .returned (match o with | some p => .tuple #[.string (bt p.1), .string (bt p.2), .bool true] | none => .tuple #[.string ⟨#[]⟩, .string ⟨#[]⟩, .bool false]) ∧ Below w.heap.size w w'
/-- how far the address is looked at -/
def OkTo (l : List UInt8) (i : Nat) (X : Bool) : Prop := (l.drop i).all okA = X
theorem okTo_step {l : List UInt8} {i : Nat} {X : Bool} (h : OkTo l i X) (hi : i < l.length) : (okA l[i] = true → OkTo l (i + 1) X) ∧ (okA l[i] = false → X = false) := by
  unfold OkTo at *
  rw [List.drop_eq_getElem_cons hi, List.all_cons] at h
  refine ⟨fun e => ?_, fun e => ?_⟩
  · rwa [e, Bool.true_and] at h
  · rw [e, Bool.false_and] at h; exact h.symm
theorem okTo_end {l : List UInt8} {i : Nat} {X : Bool} (h : OkTo l i X) (hi : ¬ i < l.length) : X = true := by
  unfold OkTo at h
  rw [List.drop_eq_nil_of_le (by omega)] at h
  exact h.symm
theorem cell_laterM {w w' : World} (hb : Below w.heap.size w w') {g j : Nat} {v : Value} (h : w.cell? ⟨g, j, none⟩ = some v) : w'.cell? ⟨g, j, none⟩ = some v := (hb.cell (p := ⟨g, j, none⟩) (World.block_lt_of_cell? _ _ h)).trans h
set_option maxHeartbeats 4000000 in
set_option maxRecDepth 100000 in
theorem pathS_any (s B : ByteArray) (w : World) (hs : s.size ≤ 1000000) (hB : Asc B.data.toList) (hT : U8T w) (m : Int) (hm : w.cell? ⟨3, 0, none⟩ = some (.int .i64 m)) :
    Calls Tryz.prog 92 #[.string s, .string B] w (PathIs (path2 B.data.toList s.data.toList) w) := by
  have hC := cutS_any s B w hs hB hT
  unfold path2
  cases hc : beginW B.data.toList s.data.toList with
  | none =>
    rw [hc] at hC
    have HC := Lib.hid hC
    clear hC hc hT hB hm
    go_enter Tryz.func92, Tryz.ntmps92
    go_wp2_with fail
    refine HC.out.mono ?_
    rintro e w1 ⟨rfl, hb1⟩
    go_wp2
    go_ret3
    exact ⟨rfl, hb1⟩
  | some x =>
    rw [hc] at hC
    have HC := Lib.hid hC
    have hxz : x.length ≤ s.size := by
      unfold beginW at hc
      split at hc
      · injection hc with hc
        rw [← hc, List.length_drop, size_len]; omega
      · cases hc
    have hTl := fun W => trimL_any (bt x) W
    rw [bt_data] at hTl
    show Calls _ _ _ _ (PathIs (pathW (x.dropWhile blk)) w)
    have hyz := (List.dropWhile_sublist blk (l := x)).length_le
    generalize x.dropWhile blk = y at *
    have HTl := Lib.hid hTl
    have HP := Lib.hid (fun W => Tryz.strings_CutPrefix (bt y) ⟨#[60]⟩ W)
    have e60 : (bt y).data.toList = y := bt_data y
    rw [e60] at HP
    have e60' : (⟨#[60]⟩ : ByteArray).data.toList = [60] := rfl
    rw [e60'] at HP
    cases hp : Lib.hasPrefix y [60] with
    | false =>
      rw [hp] at HP
      rw [pathW_pre y hp]
      clear hC hTl hc hT hB hm e60 e60' hp
      go_enter Tryz.func92, Tryz.ntmps92
      go_wp2_with fail
      refine HC.out.mono ?_
      rintro e w1 ⟨rfl, hb1⟩
      go_wp2_with fail
      refine (HTl.out _).mono ?_
      rintro e w2 ⟨rfl, hb2⟩
      have hb12 := hb1.trans (hb2.mono hb1.size)
      go_wp2_with fail
      refine (HP.out _).mono ?_
      rintro e w3 ⟨rfl, rfl⟩
      go_wp2_with fail
      go_wp2
      go_ret3
      exact ⟨rfl, hb12⟩
    | true =>
      rw [hp] at HP
      rw [pathW_yes y hp]
      have htz : (Lib.trimPrefix y [60]).length ≤ y.length := by
        rw [show Lib.trimPrefix y [60] = y.drop 1 by unfold Lib.trimPrefix; rw [hp]; rfl, List.length_drop]
        omega
      generalize Lib.trimPrefix y [60] = z at *
      have hCut := fun W hm' => Tryz.strings_Cut (bt z) ⟨#[62]⟩ m W (by unfold bt; simp [ByteArray.size]; omega) hm'
      have e62 : (bt z).data.toList = z := bt_data z
      have e62' : (⟨#[62]⟩ : ByteArray).data.toList = [62] := rfl
      rw [e62, e62'] at hCut
      obtain ⟨l1, l2⟩ := cut_len z 62
      generalize Lib.cut z [62] = ct at *
      obtain ⟨a, b, f⟩ := ct
      simp only at l1 l2 hCut ⊢
      have HM := Lib.hid (fun w1 (hb : Below w.heap.size w w1) => hCut w1 (cell_laterM hb hm))
      have hzz : (⟨z.toArray⟩ : ByteArray) = bt z := rfl
      rw [hzz] at HP
      cases f with
      | false =>
        rw [show (if (false = true ∧ a.all okA = true) then some (a, b) else none) = none from if_neg (by simp)]
        clear hC hTl hc hT hB hm e60 e60' hp hCut e62 e62' hzz
        go_enter Tryz.func92, Tryz.ntmps92
        go_wp2_with fail
        refine HC.out.mono ?_
        rintro e w1 ⟨rfl, hb1⟩
        go_wp2_with fail
        refine (HTl.out _).mono ?_
        rintro e w2 ⟨rfl, hb2⟩
        have hb12 := hb1.trans (hb2.mono hb1.size)
        go_wp2_with fail
        refine (HP.out _).mono ?_
        rintro e w3 ⟨rfl, rfl⟩
        go_wp2_with fail
        refine (HM.out _ hb12).mono ?_
        rintro e w4 ⟨rfl, n4, rfl⟩
        go_wp2
        go_ret3
        exact ⟨rfl, hb12.trans ((below_drawN _ _).mono hb12.size)⟩
      | true =>
        obtain ⟨A, hAe, hAd, hAs⟩ := bt_ex a
        have hA2 : (⟨a.toArray⟩ : ByteArray) = A := hAe.symm
        obtain ⟨R, hRe, -, -⟩ := bt_ex b
        have hR2 : (⟨b.toArray⟩ : ByteArray) = R := hRe.symm
        rw [hA2, hR2] at HM
        obtain ⟨X, hX⟩ : ∃ X, X = a.all okA := ⟨_, rfl⟩
        have hst : Hid (OkTo a 0 X) := by show _ = _; rw [List.drop_zero, hX]
        have HF := Lib.hid (show (if (true = true ∧ a.all okA = true) then some (a, b) else none) = if X = true then some (a, b) else none by rw [hX]; simp)
        have HE := Lib.hid (And.intro hAe hRe)
        have hAl : A.size = a.length := hAs
        have hae : a = A.data.toList := hAd.symm
        have hAz : A.size ≤ 1000000 := by omega
        clear hC hTl hc hT hB hm e60 e60' hp hCut e62 e62' hzz hAe hRe hA2 hR2 hX hAd hAs
        generalize (if (true = true ∧ a.all okA = true) then some (a, b) else none) = O at *
        have Hae := Lib.hid (And.intro hae hAl)
        clear hae hAl l1 l2 htz hyz hxz
        go_enter Tryz.func92, Tryz.ntmps92
        go_wp2_with fail
        refine HC.out.mono ?_
        rintro e w1 ⟨rfl, hb1⟩
        go_wp2_with fail
        refine (HTl.out _).mono ?_
        rintro e w2 ⟨rfl, hb2⟩
        have hb12 := hb1.trans (hb2.mono hb1.size)
        go_wp2_with fail
        refine (HP.out _).mono ?_
        rintro e w3 ⟨rfl, rfl⟩
        go_wp2_with fail
        refine (HM.out _ hb12).mono ?_
        rintro e w4 ⟨rfl, n4, rfl⟩
        have hb4 := hb12.trans ((below_drawN _ n4).mono hb12.size)
        generalize World.drewN _ n4 = w4 at *
        obtain ⟨cp, w5, hcv, hcell, hb5, -⟩ := conv_bytesM w4 A
        go_wp2
        have hb45 := hb4.trans (hb5.mono hb4.size)
        go_loopw [4, 5, 36] (fun av rv iv wr => ∃ k : Nat, av = .string A ∧ rv = .string R ∧ iv = .int .i64 k ∧ k ≤ A.size ∧ wr = w5 ∧ Hid (OkTo a k X)) (fun _ _ iv _ => A.size - (intOf iv).toNat)
        case atStart => exact ⟨0, rfl, rfl, by first | rfl | trivial, Nat.zero_le _, rfl, hst⟩
        case round =>
          clear hst
          obtain ⟨k, rfl, rfl, rfl, hk, rfl, hrel⟩ := hrel
          by_cases hlt : k < A.size
          · have c0 := hcell k hlt
            have hka : k < a.length := by have := Hae.out.2; omega
            obtain ⟨s1, s2⟩ := okTo_step hrel.out hka
            have hak : a[k] = A[k] := by
              have : a = A.data.toList := Hae.out.1
              subst this
              rfl
            rw [hak] at s1 s2
            have hr := A[k].toNat_lt
            by_cases h1 : A[k].toNat ≤ 32
            · have q1 : decide ((A[k].toNat : Int) ≤ 32) = true := decide_eq_true (by omega)
              have q1' : decide (A[k].toNat ≤ 32) = true := decide_eq_true h1
              have hX := s2 (by unfold okA; rw [decide_eq_false (by omega)]; rfl)
              have HXX := Lib.hid hX
              clear s1 s2 hrel hX hcell hak hka
              go_wp2
              go_ret3
              exact ⟨by rw [HF.out, HXX.out]; rfl, hb45⟩
            · have q1 : decide ((A[k].toNat : Int) ≤ 32) = false := decide_eq_false (by omega)
              have q1' : decide (A[k].toNat ≤ 32) = false := decide_eq_false h1
              by_cases h2 : 126 < A[k].toNat
              · have q2 : decide ((126 : Int) < (A[k].toNat : Int)) = true := decide_eq_true (by omega)
                have q2' : decide (126 < A[k].toNat) = true := decide_eq_true h2
                have hX := s2 (by unfold okA; rw [decide_eq_false (show ¬ A[k].toNat < 127 by omega)]; simp)
                have HXX := Lib.hid hX
                clear s1 s2 hrel hX hcell hak hka
                go_wp2
                go_ret3
                exact ⟨by rw [HF.out, HXX.out]; rfl, hb45⟩
              · have q2 : decide ((126 : Int) < (A[k].toNat : Int)) = false := decide_eq_false (by omega)
                have q2' : decide (126 < A[k].toNat) = false := decide_eq_false h2
                by_cases h3 : A[k] = 60
                · have q3 : ((A[k].toNat : Int) == 60) = true := by rw [h3]; rfl
                  have hX := s2 (by unfold okA; rw [h3]; simp)
                  have HXX := Lib.hid hX
                  clear s1 s2 hrel hX hcell hak hka h3
                  go_wp2
                  go_ret3
                  exact ⟨by rw [HF.out, HXX.out]; rfl, hb45⟩
                · have q3 : ((A[k].toNat : Int) == 60) = false := by
                    rw [beq_eq_false_iff_ne]; intro e; apply h3; rw [← UInt8.toNat_inj]; exact_mod_cast e
                  have hnx := Lib.hid (s1 (by unfold okA; rw [decide_eq_true (show 32 < A[k].toNat by omega), decide_eq_true (show A[k].toNat < 127 by omega), decide_eq_true h3]; rfl))
                  clear s1 s2 hrel hcell hak h3 hka
                  go_wp2
                  go_roundw
                  case rel => exact ⟨k + 1, rfl, rfl, by go_num, by omega, by first | rfl | trivial, hnx⟩
                  case measure => simp [intOf]; omega
          · have hX := okTo_end hrel.out (by have := Hae.out.2; omega)
            have HXX := Lib.hid hX
            clear hrel hX
            go_wp2
            go_ret3
            obtain ⟨hA0, hR0⟩ := HE.out
            exact ⟨by rw [HF.out, HXX.out, hA0, hR0]; rfl, hb45⟩

end Go.Proofs.YtjoipgekmnnlpaaGreatDoor
namespace Sm
open Go
theorem itoa_dig (n : Nat) (h0 : 100 ≤ n) (h1 : n < 1000) : Lib.itoa (n : Int) = dig3 n := by
  have key : ∀ m : Nat, m < 1000 → 100 ≤ m → Lib.itoa (m : Int) = dig3 m := by decide +kernel
  exact key n h1 h0
theorem ix_mem (l : List UInt8) (c : UInt8) : decide (0 ≤ Lib.indexByte l c) = l.contains c := by
  induction l with
  | nil => rfl
  | cons a l ih =>
    rw [Lib.indexByte]
    rw [List.contains_cons]
    by_cases h : a = c
    · subst h; simp
    · have h1 : (c == a) = false := by simp; exact fun e => h e.symm
      rw [h1, Bool.false_or, ← ih]
      have h2 : (a == c) = false := by simp; exact h
      first | rw [if_neg h] | (rw [h2]; skip)
      by_cases h3 : Lib.indexByte l c = -1
      · rw [h3]; simp
      · simp [h3]
        have := Lib.indexByte_ge l c
        omega
end Sm
namespace Go.Proofs.YtjoipgekmnnlpaaGreatDoor
open Go.RowKit Go.Shelf Go.Lib Pk U8 Sm

theorem bt_app (a b : List UInt8) : bt a ++ bt b = bt (a ++ b) := by
  apply ByteArray.ext
  simp [bt]
theorem mid_data (a : ByteArray) : (a.extract 1 (a.size - 1)).data.toList = (a.data.toList.drop 1).dropLast := by
  have hl : a.data.toList.length = a.size := rfl
  rw [ByteArray.data_extract, Array.toList_extract, List.dropLast_eq_take, List.length_drop, hl]
theorem may_no (l : List UInt8) (h : ¬ (2 < l.length ∧ l.length ≤ 254)) : mayW l = false := by
  unfold mayW
  by_cases h1 : l.length ≤ 254
  · have : (l.drop 1).dropLast = [] := by
      rw [← List.length_eq_zero_iff]; simp; omega
    rw [this]; simp
  · rw [decide_eq_false h1]; rfl
set_option maxRecDepth 100000 in
theorem mayS_any (a : ByteArray) (w : World) (hs : a.size ≤ 1000000) :
    Calls Tryz.prog 93 #[.string a] w fun e w' => e = .returned (.bool (mayW a.data.toList)) ∧ w' = w := by
  have hl : a.data.toList.length = a.size := rfl
  by_cases h1 : 2 < a.size
  · by_cases h2 : a.size ≤ 254
    · have hC := Tryz.strings_Contains_one (a.extract 1 (a.size - 1)) 64 w
      rw [mid_data a, ix_mem] at hC
      have hm : mayW a.data.toList = (a.data.toList.drop 1).dropLast.contains 64 := by
        unfold mayW
        rw [decide_eq_true (by omega)]; rfl
      rw [hm]
      generalize ((a.data.toList.drop 1).dropLast.contains 64) = M at *
      have HC := Lib.hid hC
      have q1 : decide ((2 : Int) < (a.size : Int)) = true := decide_eq_true (by omega)
      have q2 : decide ((a.size : Int) ≤ 254) = true := decide_eq_true (by omega)
      clear hC hm hl
      go_enter Tryz.func93, Tryz.ntmps93
      go_wp2_with fail
      refine HC.out.mono ?_
      rintro e w1 ⟨rfl, rfl⟩
      go_wp2
      go_ret
      exact ⟨rfl, rfl⟩
    · rw [may_no _ (by omega)]
      have q1 : decide ((2 : Int) < (a.size : Int)) = true := decide_eq_true (by omega)
      have q2 : decide ((a.size : Int) ≤ 254) = false := decide_eq_false (by omega)
      go_enter Tryz.func93, Tryz.ntmps93
      go_wp2
      go_ret
      exact ⟨rfl, rfl⟩
  · rw [may_no _ (by omega)]
    have q1 : decide ((2 : Int) < (a.size : Int)) = false := decide_eq_false (by omega)
    go_enter Tryz.func93, Tryz.ntmps93
    go_wp2
    go_ret
    exact ⟨rfl, rfl⟩
/-- the texts of the replies, at this world and every later one -/
def SaidAt (w : World) : Prop := ∃ bm, w.cell? ⟨0, 0, none⟩ = some (.map (some bm)) ∧ ∀ wr, Below w.heap.size w wr → ∀ n : Nat, n < 1000 → (Instr.lookup 85 (.map (some bm)) (.int .i64 n) false).run Tryz.prog wr = .ok (.string (bt (saidW n))) wr
theorem SaidAt.later {w w' : World} (h : SaidAt w) (hb : Below w.heap.size w w') : SaidAt w' := by
  obtain ⟨bm, h1, h2⟩ := h
  exact ⟨bm, cell_laterM hb h1, fun wr hw n hn => h2 wr (hb.trans (hw.mono hb.size)) n hn⟩
set_option maxHeartbeats 2000000 in
set_option maxRecDepth 100000 in
theorem reply_any (n : Nat) (w : World) (h0 : 100 ≤ n) (h1 : n < 1000) (hS : SaidAt w) (hT : TabN w) :
    Calls Tryz.prog 33 #[.int .i64 n] w fun e w' => e = .returned (.string (bt (repW n))) ∧ Below w.heap.size w w' := by
  obtain ⟨bm, hc, hlk⟩ := hS
  have hX := fun W hb => text_any n W (by omega) (by omega) (TabN.later hT hb)
  rw [itoa_dig n h0 h1, show (⟨(dig3 n).toArray⟩ : ByteArray) = bt (dig3 n) from rfl] at hX
  have hL := fun W hb => hlk W hb n h1
  have hE : bt (repW n) = bt (dig3 n) ++ ⟨#[32]⟩ ++ bt (saidW n) ++ ⟨#[13, 10]⟩ := by
    show bt _ = bt (dig3 n) ++ bt [32] ++ bt (saidW n) ++ bt [13, 10]
    rw [bt_app, bt_app, bt_app]
    unfold repW
    simp
  rw [hE]
  have hz : (bt (dig3 n)).size ≤ 1000 ∧ (bt (saidW n)).size ≤ 1000 := by
    refine ⟨by rw [show (bt (dig3 n)).size = 3 from rfl]; omega, ?_⟩
    have key : ∀ m : Nat, m < 1000 → (saidW m).length ≤ 1000 := by decide +kernel
    have := key n h1
    show ((saidW n).toArray).size ≤ 1000
    simpa using this
  obtain ⟨hz1, hz2⟩ := hz
  generalize bt (dig3 n) = D at *
  generalize bt (saidW n) = T at *
  have HX := Lib.hid (fun W (hb : Below w.heap.size w W) => hX W hb)
  have HL := Lib.hid hL
  have HC := Lib.hid hc
  clear hX hL hlk hE hT hc
  go_enter Tryz.func33, Tryz.ntmps33
  have hc := HC.out
  have hl := HL.out w (Below.refl _ _)
  have t1 : ¬ 9223372036854775807 < D.size + 1 := by omega
  have t2 : ¬ 9223372036854775807 < D.size + 1 + T.size := by omega
  have t3 : ¬ 9223372036854775807 < D.size + 1 + T.size + 2 := by omega
  go_wp2
  go_region_held3 (fun W => W.cell? ⟨0, 0, none⟩ = some (.map (some bm)) ∧ (Instr.lookup 85 (.map (some bm)) (.int .i64 n) false).run Tryz.prog W = .ok (.string T) W) (first | exact ⟨hc, hl⟩ | exact ⟨hc1, hl1⟩ | exact ⟨HC.out, HL.out _ (Below.refl _ _).drew⟩) (first | (go_at_call 28; (with_reducible refine (HX.out _ (by first | exact Below.refl _ _ | exact (Below.refl _ _).drew)).mono ?_); rintro e w1 ⟨rfl, hb0⟩; have hb1 : Below w.heap.size w w1 := (by first | exact hb0 | exact (Below.refl _ _).drew.trans hb0); have hc1 := cell_laterM hb1 HC.out; have hl1 := HL.out w1 hb1) | fail)
  all_goals (go_wp2; go_ret; exact ⟨rfl, hb1⟩)
end Go.Proofs.YtjoipgekmnnlpaaGreatDoor
