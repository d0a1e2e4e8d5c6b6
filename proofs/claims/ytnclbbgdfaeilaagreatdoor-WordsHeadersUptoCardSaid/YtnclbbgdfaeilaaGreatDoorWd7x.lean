/- Walks: words: plain. Walks: words: Encode. Walks: words: Decode, Encode and Repair at a world that has what they need; lengths. -/
import Derived.Test.YtnclbbgdfaeilaaGreatDoorWdW
import Derived.Test.YtnclbbgdfaeilaaGreatDoorWdE
import Derived.Lib.Join
namespace Go.Proofs.YtnclbbgdfaeilaaGreatDoor
open Go.RowKit Pk U8 Cs Wd

theorem dec_hi {c : UInt8} {r : List UInt8} (h : 128 ≤ c.toNat) : 128 ≤ (dec (c :: r)).1 := by
  by_cases ho : Okay (c :: r)
  · obtain ⟨h1, h2⟩ := enc_dec (c :: r) (by simp) ho
    have hw := dec_width (c :: r) (by simp)
    rcases ho with ho | ho
    · rw [at_cons0] at ho; omega
    · rcases Nat.lt_or_ge (dec (c :: r)).1 128 with hlt | hge
      · rw [enc_one _ hlt] at h2
        have := congrArg List.length h2
        rw [List.length_take] at this
        simp only [List.length_singleton] at this
        omega
      · exact hge
  · rw [dec_bad _ ho]; decide
def badR (x : Nat) : Bool := decide ((x : Int) < 32) || decide ((126 : Int) < x)
theorem okB_dec (c : UInt8) (r : List UInt8) : badR (dec (c :: r)).1 = !(okB c) := by
  unfold badR okB
  by_cases h : c.toNat < 128
  · rw [Su.dec_asc h]
    by_cases h1 : 32 ≤ c.toNat
    · by_cases h2 : c.toNat ≤ 126
      · rw [decide_eq_false (by omega), decide_eq_false (by omega), decide_eq_true h1, decide_eq_true h2]; rfl
      · rw [decide_eq_true (show (126 : Int) < c.toNat by omega), decide_eq_false h2]; simp
    · rw [decide_eq_true (show (c.toNat : Int) < 32 by omega), decide_eq_false h1]; simp
  · have := dec_hi (c := c) (r := r) (by omega)
    rw [decide_eq_true (show (126 : Int) < ((dec (c :: r)).1 : Int) by omega), decide_eq_false (show ¬ c.toNat ≤ 126 by omega)]; simp
theorem idx_ok (s : ByteArray) : ∀ (f p : Nat), s.size - p ≤ f → decide (Lib.idxFuncFrom badR true s f p < 0) = (tl s p).all okB
  | 0, p, h => by
    rw [tl_end s p (by omega)]
    rfl
  | f + 1, p, h => by
    unfold Lib.idxFuncFrom
    by_cases hp : p < s.size
    · rw [if_pos hp, dec_eq, tl_cons s p hp, okB_dec]
      cases ho : okB s[p] with
      | true =>
        have hlo : s[p].toNat < 128 := by
          unfold okB at ho
          simp only [Bool.and_eq_true, decide_eq_true_eq] at ho
          omega
        rw [if_neg (by decide), Su.dec_asc hlo, List.all_cons, ho, Bool.true_and]
        exact idx_ok s f (p + 1) (by omega)
      | false =>
        rw [if_pos (show (!false) = true by rfl), List.all_cons, ho, Bool.false_and]
        exact decide_eq_false (by omega)
    · rw [if_neg hp, tl_end s p (by omega)]; rfl
theorem contains_eq : ∀ l : List UInt8, Lib.contains l [61, 63] = !(noEq l)
  | [] => rfl
  | [a] => by
    unfold Lib.contains
    simp [Lib.index, noEq, List.isPrefixOf]
  | a :: b :: r => by
    have ih := contains_eq (b :: r)
    unfold Lib.contains at ih ⊢
    have e : Lib.index (a :: b :: r) [61, 63] = if [61, 63].isPrefixOf (a :: b :: r) = true then 0 else if (Lib.index (b :: r) [61, 63] == -1) = true then -1 else Lib.index (b :: r) [61, 63] + 1 := rfl
    have e2 : noEq (a :: b :: r) = (!(a == 61 && b == 63) && noEq (b :: r)) := rfl
    have e3 : ([61, 63] : List UInt8).isPrefixOf (a :: b :: r) = (a == 61 && b == 63) := by
      simp only [List.isPrefixOf, Bool.and_true]
      rw [show ((61 : UInt8) == a) = (a == 61) by exact BEq.comm, show ((63 : UInt8) == b) = (b == 63) by exact BEq.comm]
    rw [e, e2, e3]
    cases h : (a == 61 && b == 63) with
    | true => simp
    | false =>
      rw [if_neg (by decide)]
      simp only [Bool.not_false, Bool.true_and, ← ih]
      by_cases h2 : Lib.index (b :: r) [61, 63] = -1
      · rw [h2]; simp
      · rw [if_neg (by simpa using h2)]
        have := Lib.index_ge (b :: r) [61, 63]
        exact decide_eq_decide.2 (by omega)
set_option maxRecDepth 100000 in
theorem plainC_any (x : Nat) (w : World) : Calls Tryz.prog 43 #[.int .i32 x] w fun e w' => e = .returned (.bool (badR x)) ∧ w = w' := by
  unfold badR
  by_cases h : (x : Int) < 32
  · rw [decide_eq_true h, Bool.true_or]
    go_enter Tryz.func43, Tryz.ntmps43
    go_wp2
    go_ret
    exact ⟨rfl, rfl⟩
  · rw [decide_eq_false h, Bool.false_or]
    go_enter Tryz.func43, Tryz.ntmps43
    go_wp2
    go_ret
    exact ⟨rfl, rfl⟩
theorem ixf_any (s : ByteArray) (w : World) : Calls Tryz.prog 42 #[.string s, .func (.func 43) #[] #[]] w fun e w' => (∃ x : Int, e = .returned (.int .i64 x) ∧ decide (x < 0) = s.data.toList.all okB) ∧ Below w.heap.size w w' := by
  refine (Tryz.strings_IndexFunc_grows 43 #[] (enters_of Tryz.func43 (by kernel_rfl) rfl) badR s w fun W x _ _ => (plainC_any x W).mono fun e w' ⟨h1, h2⟩ => ⟨h1, h2 ▸ Below.refl _ _⟩).mono fun e w' ⟨h1, h2⟩ => ⟨⟨_, h1, ?_⟩, h2⟩
  have := idx_ok s s.size 0 (by omega)
  rw [tl_zero] at this
  exact this
theorem containsW (s : ByteArray) (w : World) (m : Int) (hs : s.size ≤ 3000000) (hm : w.cell? ⟨1, 0, none⟩ = some (.int .i64 m)) : Calls Tryz.prog 41 #[.string s, .string ⟨#[61, 63]⟩] w fun e w' => e = .returned (.bool (!(noEq s.data.toList))) ∧ w' = w := by
  have := Tryz.strings_Contains s ⟨#[61, 63]⟩ m w (by omega) hm
  rw [show (⟨#[61, 63]⟩ : ByteArray).data.toList = [61, 63] from rfl, contains_eq] at this
  exact this
set_option maxRecDepth 100000 in
theorem plainW_any (s : ByteArray) (w : World) (hw : Rdy w) (hs : s.size ≤ 3000000) : Calls Tryz.prog 18 #[.string s] w fun e w' => e = .returned (.bool (plainS s.data.toList)) ∧ Below w.heap.size w w' := by
  obtain ⟨m, hm⟩ := hw.max
  have hc := containsW s w m hs hm
  have HI := Lib.hid (fun w => ixf_any s w)
  unfold plainS
  cases hn : noEq s.data.toList with
  | false =>
    rw [hn] at hc
    have HC := Lib.hid hc
    rw [Bool.false_and]
    clear hc hw hm hn
    go_enter Tryz.func18, Tryz.ntmps18
    go_wp2_with (go_at_call 41; (with_reducible refine HC.out.mono ?_); rintro e w1 ⟨rfl, hw1⟩; subst w1)
    go_ret
    exact ⟨rfl, Below.refl _ _⟩
  | true =>
    rw [hn] at hc
    have HC := Lib.hid hc
    rw [Bool.true_and]
    clear hc hw hm hn
    generalize s.data.toList.all okB = b at HI
    go_enter Tryz.func18, Tryz.ntmps18
    go_wp2_with (first
      | (go_at_call 41; (with_reducible refine HC.out.mono ?_); rintro e w1 ⟨rfl, hw1⟩; subst w1)
      | (go_at_call 42; (with_reducible refine (HI.out _).mono ?_); rintro e w2 ⟨⟨x, rfl, hx⟩, hb2⟩))
    go_ret
    exact ⟨by rw [← hx]; rfl, hb2⟩
end Go.Proofs.YtnclbbgdfaeilaaGreatDoor
namespace Go.Proofs.YtnclbbgdfaeilaaGreatDoor
open Go.RowKit Pk U8 Cs Wd

theorem ssW : StrSl Tryz.prog 34 9 where
  ht := Tryz.underlying34
  hi := info_parts (show (Tryz.prog.info? 9).map (fun i => (i.zero, i.size, i.bytes)) = some (some (.string ⟨#[]⟩), 1, 16) by kernel_rfl)
theorem ownsS.stored {w : World} {B : Nat} {e : TypeId} {g n cap : Nat} {l : List ByteArray} (h : ownsS w B e (.slice (some ⟨g, 0, none⟩) n cap) l) (hn : l.length = n) (j : Nat) (x : ByteArray) :
    ownsS (w.setCell ⟨g, j, none⟩ (.string x)) B e (.slice (some ⟨g, 0, none⟩) n cap) (l.set j x) := by
  subst hn
  have := (World.ownsRow.stored h j (.string x)).1
  unfold ownsS
  rw [List.length_set, List.map_set]
  exact this
theorem ownsS.cellAt {w : World} {B : Nat} {e : TypeId} {g n cap : Nat} {l : List ByteArray} (h : ownsS w B e (.slice (some ⟨g, 0, none⟩) n cap) l) (hn : l.length = n) (j : Nat) (hj : j < l.length) : w.cell? ⟨g, j, none⟩ = some (.string l[j]) := by
  subst hn
  rw [World.ownsRow.cellAt h j (by omega)]
  simp [List.getElem?_eq_getElem hj, strV]
theorem ownsS.frozenAt {w : World} {B : Nat} {e : TypeId} {g n cap : Nat} {l : List ByteArray} (h : ownsS w B e (.slice (some ⟨g, 0, none⟩) n cap) l) (hn : l.length = n) (j : Nat) : w.frozen? ⟨g, j, none⟩ = false := by
  subst hn; exact World.ownsRow.frozenAt h j
def qZ (n : Int) : List UInt8 := C6.qR (Lib.encodeRune n)
theorem qZ_map (l : List UInt8) : (runesZ l).map qZ = (runes l).map qF := by
  rw [runesZ_eq _ l (Nat.le_refl _), List.map_map]; rfl
def dat (l : List ByteArray) : List (List UInt8) := l.map (·.data.toList)
theorem dat_length (l : List ByteArray) : (dat l).length = l.length := by unfold dat; simp
theorem dat_append (a b : List ByteArray) : dat (a ++ b) = dat a ++ dat b := by unfold dat; simp
theorem data_app (a b : ByteArray) : (a ++ b).data.toList = a.data.toList ++ b.data.toList := by
  show ((a ++ b).data).toList = _
  rw [ByteArray.data_append]; simp
theorem pk_new {L X : List (List UInt8)} {O : List UInt8} {ns : List Int} {k : Nat} (h : Hid (L ++ pack O ((ns.drop k).map qZ) = X)) (hk : k < ns.length) (hn : 63 < O.length + (qZ ns[k]).length) : Hid (L ++ [O] ++ pack (qZ ns[k]) ((ns.drop (k + 1)).map qZ) = X) := by
  have e := h.out
  rw [List.drop_eq_getElem_cons hk, List.map_cons] at e
  unfold pack at e
  rw [if_pos hn] at e
  show _ = _
  rw [← e]; simp
theorem pk_add {L X : List (List UInt8)} {O : List UInt8} {ns : List Int} {k : Nat} (h : Hid (L ++ pack O ((ns.drop k).map qZ) = X)) (hk : k < ns.length) (hn : ¬ 63 < O.length + (qZ ns[k]).length) : Hid (L ++ pack (O ++ qZ ns[k]) ((ns.drop (k + 1)).map qZ) = X) := by
  have e := h.out
  rw [List.drop_eq_getElem_cons hk, List.map_cons] at e
  unfold pack at e
  rw [if_neg hn] at e
  exact e
theorem pk_end {L X : List (List UInt8)} {O : List UInt8} {ns : List Int} {k : Nat} (h : Hid (L ++ pack O ((ns.drop k).map qZ) = X)) (hk : ¬ k < ns.length) : L ++ [O] = X := by
  have e := h.out
  rw [List.drop_eq_nil_of_le (by omega)] at e
  exact e
def wrapB (w : ByteArray) : ByteArray := (⟨#[61, 63, 117, 116, 102, 45, 56, 63, 81, 63]⟩ : ByteArray) ++ w ++ (⟨#[63, 61]⟩ : ByteArray)
theorem wrapB_data (w : ByteArray) : (wrapB w).data.toList = wrapW w.data.toList := by
  unfold wrapB
  rw [data_app, data_app]
  rfl
def mixS (ws : List ByteArray) (k : Nat) : List ByteArray := (ws.take k).map wrapB ++ ws.drop k
theorem mixS_length (ws : List ByteArray) (k : Nat) : (mixS ws k).length = ws.length := by
  unfold mixS
  rw [List.length_append, List.length_map, List.length_take, List.length_drop]; omega
theorem mixS_at (ws : List ByteArray) (k : Nat) (h : k < ws.length) (h2 : k < (mixS ws k).length) : (mixS ws k)[k] = ws[k] := by
  have e : (mixS ws k)[k]? = some ws[k] := by
    unfold mixS
    rw [List.getElem?_append_right (by rw [List.length_map, List.length_take]; omega), List.length_map, List.length_take, List.getElem?_drop]
    have : k + (k - min k ws.length) = k := by omega
    rw [this, List.getElem?_eq_getElem h]
  rw [List.getElem?_eq_getElem h2] at e
  exact Option.some.inj e
theorem mixS_step (ws : List ByteArray) (k : Nat) (h : k < ws.length) : (mixS ws k).set k (wrapB ws[k]) = mixS ws (k + 1) := by
  unfold mixS
  rw [List.set_append_right _ _ (by rw [List.length_map, List.length_take]; omega)]
  have e : k - ((ws.take k).map wrapB).length = 0 := by rw [List.length_map, List.length_take]; omega
  rw [e, List.drop_eq_getElem_cons h, List.set_cons_zero, List.take_succ_eq_append_getElem h, List.map_append]
  simp
theorem mixS_zero (ws : List ByteArray) : mixS ws 0 = ws := by unfold mixS; simp
theorem mixS_end (ws : List ByteArray) : mixS ws ws.length = ws.map wrapB := by unfold mixS; simp
theorem joinW_eq : ∀ ws : List (List UInt8), Lib.join (ws.map wrapW) [32] = joinW ws
  | [] => rfl
  | [w] => by unfold Lib.join joinW; simp
  | w :: v :: r => by
    have ih := joinW_eq (v :: r)
    unfold Lib.join at ih ⊢
    have e : joinW (w :: v :: r) = wrapW w ++ 32 :: joinW (v :: r) := rfl
    rw [e, ← ih]
    simp [List.intercalate]
theorem joinW_length : ∀ ws : List (List UInt8), (∀ w ∈ ws, w.length ≤ 63) → (joinW ws).length ≤ 76 * ws.length
  | [], _ => by simp [joinW]
  | [w], h => by
    have := h w (by simp)
    unfold joinW
    rw [wrapW_length]; simp; omega
  | w :: v :: r, h => by
    have := h w (by simp)
    have ih := joinW_length (v :: r) (fun x hx => h x (by simp [hx]))
    have e : joinW (w :: v :: r) = wrapW w ++ 32 :: joinW (v :: r) := rfl
    rw [e, List.length_append, wrapW_length]
    simp only [List.length_cons] at *
    omega
theorem join_any (g n cap : Nat) (ws : List ByteArray) (w : World) (B : Nat) (hown : ownsS w B 9 (.slice (some ⟨g, 0, none⟩) n cap) (ws.map wrapB)) (hn : ws.length = n) (h0 : 0 < n) (hb : n ≤ 3000000) (hl : ∀ x ∈ dat ws, x.length ≤ 63) :
    Calls Tryz.prog 22 #[.slice (some ⟨g, 0, none⟩) n cap, .string ⟨#[32]⟩] w fun e w' => e = .returned (.string ⟨(joinW (dat ws)).toArray⟩) ∧ Below w.heap.size w w' := by
  have hlen : (ws.map wrapB).length = n := by rw [List.length_map]; exact hn
  have hcap : n ≤ cap := by
    rcases hown.form with ⟨h1, -⟩ | ⟨g', cap', h1, -, h2, -⟩
    · cases h1
    · injection h1 with _ _ h3
      rw [hlen] at h2; omega
  have hc : ∀ j (hj : j < (ws.map wrapB).length), w.cell? ⟨g, j, none⟩ = some (.string (ws.map wrapB)[j]) := fun j hj => ownsS.cellAt hown hlen j hj
  have hg : g < w.heap.size := World.block_lt_of_cell? _ _ (hc 0 (by omega))
  have he : Lib.join ((ws.map wrapB).map (·.data.toList)) [32] = joinW (dat ws) := by
    rw [← joinW_eq]
    unfold dat
    rw [List.map_map, List.map_map]
    exact congrArg (fun l => Lib.join l [32]) (List.map_congr_left fun x _ => wrapB_data x)
  have hj := Tryz.strings_Join g 0 cap (ws.map wrapB) ⟨#[32]⟩ w (fun j x hx => by
    obtain ⟨h1, h2⟩ := List.getElem?_eq_some_iff.1 hx
    rw [Nat.zero_add, hc j h1, h2]) hg (by omega) (by omega) (by
      rw [show (⟨#[32]⟩ : ByteArray).data.toList = [32] from rfl, he]
      have := joinW_length (dat ws) hl
      rw [dat_length] at this
      omega)
  rw [show (⟨#[32]⟩ : ByteArray).data.toList = [32] from rfl, he, hlen] at hj
  exact hj
theorem emp_size (Q : ByteArray) : ((⟨#[]⟩ : ByteArray) ++ Q).size = Q.size := by rw [ByteArray.size_append]; show 0 + _ = _; omega
set_option maxHeartbeats 4000000 in
set_option maxRecDepth 100000 in
theorem encodeW_any (s : ByteArray) (w : World) (hw : Rdy w) (hs : s.size ≤ 1050000) : Calls Tryz.prog 6 #[.string s] w fun e w' => e = .returned (.string ⟨(encW s.data.toList).toArray⟩) ∧ Below w.heap.size w w' := by
  have hp := plainW_any s w hw (by omega)
  cases hpl : plainS s.data.toList with
  | true =>
    rw [hpl] at hp
    have HP := Lib.hid hp
    have he : encW s.data.toList = s.data.toList := by unfold encW; rw [if_pos hpl]
    rw [he]
    clear hp hw hpl he
    go_enter Tryz.func6, Tryz.ntmps6
    go_wp2_with (go_at_call 18; (with_reducible refine HP.out.mono ?_); rintro e w1 ⟨rfl, hb1⟩)
    go_ret
    exact ⟨rfl, hb1⟩
  | false =>
    rw [hpl] at hp
    have HP := Lib.hid hp
    have he : encW s.data.toList = joinW (wordsL s.data.toList) := by unfold encW; rw [if_neg (by rw [hpl]; decide)]
    have hne : 0 < (runesZ s.data.toList).length := by
      rcases Nat.eq_zero_or_pos s.size with h0 | h0
      · have : s.data.toList = [] := List.eq_nil_of_length_eq_zero h0
        rw [this] at hpl
        cases hpl
      · have hl : s.data.toList ≠ [] := fun e => by have : s.data.toList.length = s.size := rfl; rw [e] at this; simp at this; omega
        unfold runesZ
        rw [walk_cons _ _ hl]
        simp
    have hlen := runesZ_length s.data.toList
    have hmem := runesZ_mem s.data.toList
    have hpk : Hid (([] : List (List UInt8)) ++ pack [] (((runesZ s.data.toList).drop 0).map qZ) = wordsL s.data.toList) := by
      show _ = _
      rw [List.drop_zero, qZ_map]; rfl
    have HWL := Lib.hid (words_len s.data.toList)
    have hR := fun w' (hb : Below w.heap.size w w') => runesP_any s w' (hw.tabs.later hb) (by omega)
    unfold RunesIs at hR
    obtain ⟨ns, hns⟩ : ∃ ns, ns = runesZ s.data.toList := ⟨_, rfl⟩
    rw [← hns] at hne hlen hmem hpk hR
    rw [he]
    obtain ⟨W, hW⟩ : ∃ W, W = wordsL s.data.toList := ⟨_, rfl⟩
    rw [← hW] at hpk HWL ⊢
    have HR := Lib.hid hR
    have HM := Lib.hid hmem
    have hnl : ns.length ≤ 1050000 := by have : s.data.toList.length = s.size := rfl; omega
    clear hp hw hpl he hR hmem hlen hns hW
    go_enter Tryz.func6, Tryz.ntmps6
    go_wp2_with (first
      | (go_at_call 18; (with_reducible refine HP.out.mono ?_); rintro e w1 ⟨rfl, hb1⟩)
      | (go_at_call 19; (with_reducible refine (HR.out _ hb1).mono ?_); rintro e w2 ⟨v, rfl, hown, hb2⟩; rcases hown.form with ⟨h1, h2⟩ | ⟨g, cap, rfl, hBg, hlc, hcm, hcells⟩; (exact absurd (h2 ▸ hne) (by simp))))
    have HC := Lib.hid hcells
    have hgl : g < w2.heap.size := World.block_lt_of_cell? _ _ (hcells 0 hne)
    have htb : Below w.heap.size w w2 := hb1.trans (hb2.mono hb1.size)
    have hz2 := htb.size
    clear hown hcells hBg hlc hcm hb1 hb2
    go_loopw [3, 4, 16] (fun lv ov iv wr => ∃ (k : Nat) (L : List ByteArray) (O : ByteArray), iv = .int .i64 k ∧ ov = .string O ∧ ownsS wr w2.heap.size 9 lv L ∧ Below w2.heap.size w2 wr ∧ k ≤ ns.length ∧ L.length ≤ k ∧ O.size ≤ 63 ∧ Hid (dat L ++ pack O.data.toList ((ns.drop k).map qZ) = W)) (fun _ _ iv _ => ns.length - (intOf iv).toNat)
    case atStart => exact ⟨0, [], ⟨#[]⟩, by first | rfl | trivial, rfl, ownsS.nil _ _ _, Below.refl _ _, by omega, by simp, by decide, hpk⟩
    case round =>
      obtain ⟨k, L, O, rfl, rfl, hown, hbel, hk, hLl, hO, hrel⟩ := hrel
      have hsz := hbel.size
      by_cases hlt : k < ns.length
      · have hc := cell_later hbel (HC.out k hlt)
        obtain ⟨m, hm, hsm⟩ := HM.out ns[k] (List.getElem_mem _)
        have hpn := pk_new hrel hlt
        have hpa := pk_add hrel hlt
        rw [hm] at hc hpn hpa
        obtain ⟨E, hE, hEl, hEs⟩ := arr_ex (Lib.encodeRune (m : Int))
        have hrn := fun w => rune_any m w hsm
        rw [← hE] at hrn
        have hE4 : E.size ≤ 4 := by have := (enc_len m).2; omega
        have hq := fun w => qP_any E w (by omega)
        have hqe : C6.qR E.data.toList = qZ (m : Int) := by rw [hEl]; rfl
        rw [hqe] at hq
        obtain ⟨Q, hQ, hQl, hQs⟩ := arr_ex (qZ (m : Int))
        rw [← hQ] at hq
        rw [← hQl] at hpn hpa
        have hQ12 : Q.size ≤ 12 := by
          have := qF_len m
          have e : qF m = qZ (m : Int) := rfl
          rw [e] at this; omega
        have HRN := Lib.hid hrn
        have HQ := Lib.hid hq
        have hOl : O.data.toList.length = O.size := rfl
        have hQl2 : Q.data.toList.length = Q.size := rfl
        rw [hOl, hQl2] at hpn hpa
        have hemp : ((⟨#[]⟩ : ByteArray) ++ Q).data.toList = Q.data.toList := by rw [data_app]; rfl
        have hempS : ((⟨#[]⟩ : ByteArray) ++ Q).size = Q.size := emp_size Q
        have hadd : (O ++ Q).data.toList = O.data.toList ++ Q.data.toList := data_app O Q
        have haddS : (O ++ Q).size = O.size + Q.size := ByteArray.size_append
        clear hrel hm hsm hE hEl hEs hrn hq hqe hQ hQl hQs hOl hQl2
        by_cases hgt : 63 < O.size + Q.size
        · have hd := hpn hgt
          rw [← hemp] at hd
          have q1 : decide ((63 : Int) < (O.size : Int) + (Q.size : Int)) = true := decide_eq_true (by omega)
          have HD : Hid (dat (L ++ [O]) ++ pack ((⟨#[]⟩ : ByteArray) ++ Q).data.toList ((ns.drop (k + 1)).map qZ) = W) := by
            show _ = _
            rw [dat_append]; exact hd.out
          clear hpn hpa hd hadd haddS hemp
          go_wp2_with (first
            | (go_at_call 21; (with_reducible refine (HRN.out _).mono ?_); rintro e w3 ⟨rfl, rfl⟩)
            | (go_at_call 20; (with_reducible refine (HQ.out _).mono ?_); rintro e w4 ⟨rfl, hb4⟩; have hown1 := hown.below hb4 (Nat.le_refl _); have hbel1 := hbel.trans (hb4.mono hsz); have hsz1 := hbel1.size)
            | (at_builtin; refine append_str _ rfl (.tmp 29) (.tmp 31) ssW rfl w2.heap.size _ _ rfl (hown1.alloc _) ⟨_, 0, none⟩ 1 1 [_] rfl rfl (cells_new _ _ _) (by first | omega | (simp; done) | (simp; omega)) (by first | omega | (simp; done) | (simp; omega)) ?_; intro v6 w6 hown6 hg6; have hb6 := Below_grownS (hbel1.alloc hsz1 _) (hown1.alloc _) hg6 (by first | omega | (simp; done) | (simp; omega)); have hz6 := hb6.size; clear hg6))
          go_roundw
          case rel => exact ⟨k + 1, _, _, by go_num, rfl, hown6, hb6, by omega, by rw [List.length_append, List.length_singleton]; omega, by rw [hempS]; omega, HD⟩
          case measure => simp [intOf]; omega
        · have hd := hpa hgt
          rw [← hadd] at hd
          have q1 : decide ((63 : Int) < (O.size : Int) + (Q.size : Int)) = false := decide_eq_false (by omega)
          clear hpn hpa hadd hemp hempS
          go_wp2_with (first
            | (go_at_call 21; (with_reducible refine (HRN.out _).mono ?_); rintro e w3 ⟨rfl, rfl⟩)
            | (go_at_call 20; (with_reducible refine (HQ.out _).mono ?_); rintro e w4 ⟨rfl, hb4⟩; have hown1 := hown.below hb4 (Nat.le_refl _); have hbel1 := hbel.trans (hb4.mono hsz); have hsz1 := hbel1.size))
          go_roundw
          case rel => exact ⟨k + 1, _, _, by go_num, rfl, hown1, hbel1, by omega, by omega, by rw [haddS]; omega, hd⟩
          case measure => simp [intOf]; omega
      · have he := pk_end hrel hlt
        have he2 : dat (L ++ [O]) = W := by rw [dat_append]; exact he
        clear hrel he
        go_wp2_with (first
          | (at_builtin; refine append_str _ rfl (.tmp 37) (.tmp 39) ssW rfl w2.heap.size _ _ rfl (hown.alloc _) ⟨_, 0, none⟩ 1 1 [_] rfl rfl (cells_new _ _ _) (by first | omega | (simp; done) | (simp; omega)) (by first | omega | (simp; done) | (simp; omega)) ?_; intro v6 w6 hown6 hg6; have hb6 := Below_grownS (hbel.alloc hsz _) (hown.alloc _) hg6 (by first | omega | (simp; done) | (simp; omega)); have hz6 := hb6.size; clear hg6; obtain ⟨ws, hws, hwsl⟩ : ∃ ws : List ByteArray, ws = L ++ [O] ∧ ws.length = L.length + 1 := ⟨_, rfl, by simp⟩; rw [← hws] at hown6 he2; obtain ⟨n, hn⟩ : ∃ n, ws.length = n := ⟨_, rfl⟩; rcases hown6.form with ⟨-, h2⟩ | ⟨g2, cap2, rfl, hBg, hlc, hcm, hcells⟩; (exact absurd (congrArg List.length h2) (by rw [hwsl]; simp)); rw [hn] at hown6 ⊢))
        have hwl : 0 < n ∧ n ≤ 1050001 := by omega
        have hl63 : ∀ x ∈ dat ws, x.length ≤ 63 := by rw [he2]; exact HWL.out
        have hb3 := htb.trans (hb6.mono hz2)
        have HL63 := Lib.hid hl63
        have HE2 := Lib.hid he2
        have hm0 := mixS_zero ws
        rw [← hm0] at hown6
        clear hws he2 hlc hcells hl63 hm0 hown hbel hb6 HC HM HR HP hgl
        go_loopw [43] (fun iv wr => ∃ (k : Nat), iv = .int .i64 k ∧ ownsS wr w2.heap.size 9 (.slice (some ⟨g2, 0, none⟩) n cap2) (mixS ws k) ∧ Below w.heap.size w wr ∧ k ≤ n) (fun iv _ => n - (intOf iv).toNat)
        case atStart => exact ⟨0, by first | rfl | trivial, hown6, hb3, by omega⟩
        case round =>
          clear hown6 hb3
          obtain ⟨k, rfl, hown, hbel, hk⟩ := hrel
          have hsz := hbel.size
          have hml : (mixS ws k).length = n := by rw [mixS_length]; exact hn
          by_cases hlt : k < n
          · have hc0 := ownsS.cellAt hown hml k (by omega)
            rw [mixS_at ws k (by omega)] at hc0
            have hf := ownsS.frozenAt hown hml k
            have hown3 := ownsS.stored hown hml k (wrapB (ws[k]'(by omega)))
            rw [mixS_step ws k (by omega)] at hown3
            have hbel3 : Below w.heap.size w (wr.setCell ⟨g2, k, none⟩ (.string (wrapB (ws[k]'(by omega))))) := hbel.setCell (by show _ ≤ g2; omega) _
            unfold wrapB at hown3 hbel3
            have hx63 : (ws[k]'(by omega)).size ≤ 63 := HL63.out (ws[k]'(by omega)).data.toList (List.mem_map.2 ⟨_, List.getElem_mem _, rfl⟩)
            generalize (ws[k]'(by omega)) = x at hc0 hown3 hbel3 hx63
            have hx1 : ((⟨#[61, 63, 117, 116, 102, 45, 56, 63, 81, 63]⟩ : ByteArray) ++ x).size = 10 + x.size := ByteArray.size_append
            clear hown hbel
            go_wp2
            go_roundw
            case rel => exact ⟨k + 1, by go_num, hown3, hbel3, by omega⟩
            case measure => simp [intOf]; omega
          · obtain rfl : k = n := by omega
            have e := mixS_end ws
            rw [hn] at e
            rw [e] at hown
            have hJ := join_any g2 k cap2 ws wr w2.heap.size hown hn hwl.1 (by omega) HL63.out
            rw [HE2.out] at hJ
            have HJ := Lib.hid hJ
            clear hown hJ e hml
            go_wp2_with (go_at_call 22; (with_reducible refine HJ.out.mono ?_); rintro e w5 ⟨rfl, hb5⟩)
            go_ret
            exact ⟨rfl, hbel.trans (hb5.mono hsz)⟩
end Go.Proofs.YtnclbbgdfaeilaaGreatDoor
namespace Go.Proofs.YtnclbbgdfaeilaaGreatDoor
open Go.RowKit Pk U8 Cs Wd

theorem ba_of {S : ByteArray} {l : List UInt8} (h : S.data.toList = l) : (⟨l.toArray⟩ : ByteArray) = S := by
  subst h
  rfl
theorem dec_rd (s S : ByteArray) (w : World) (h : Rdy w) (hs : s.size ≤ 700000) (hS : S.data.toList = decW s.data.toList) :
    Calls Tryz.prog 11 #[.string s] w fun e w' => e = .returned (.string S) ∧ Below w.heap.size w w' := by
  have := decodeW_any s w h hs
  rw [ba_of hS] at this
  exact this
theorem rep_rd (s S : ByteArray) (w : World) (h : Rdy w) (hs : s.size ≤ 700000) (hS : S.data.toList = repairL s.data.toList) :
    Calls Tryz.prog 12 #[.string s] w fun e w' => e = .returned (.string S) ∧ Below w.heap.size w w' := by
  have := repairP_any s w h.tabs (by omega)
  rw [ba_of hS] at this
  exact this
theorem enc_rd (s S : ByteArray) (w : World) (h : Rdy w) (hs : s.size ≤ 1050000) (hS : S.data.toList = encW s.data.toList) :
    Calls Tryz.prog 6 #[.string s] w fun e w' => e = .returned (.string S) ∧ Below w.heap.size w w' := by
  have := encodeW_any s w h hs
  rw [ba_of hS] at this
  exact this
theorem decW_length (l : List UInt8) : (decW l).length ≤ 12 * l.length := by
  have := raw_length _ l (Nat.le_refl _)
  have := repairL_length (rawL l)
  unfold decW; omega
theorem pack_length : ∀ (qs : List (List UInt8)) (o : List UInt8), (pack o qs).length ≤ qs.length + 1
  | [], o => by simp [pack]
  | q :: r, o => by
    unfold pack
    split
    · have := pack_length r q
      simp only [List.length_cons]; omega
    · have := pack_length r (o ++ q)
      simp only [List.length_cons]; omega
theorem encW_length (l : List UInt8) : (encW l).length ≤ 76 * (l.length + 1) := by
  unfold encW
  split
  · omega
  · have h1 := joinW_length (wordsL l) (words_len l)
    have h2 := pack_length ((runes l).map qF) []
    have h3 := runes_length l
    rw [List.length_map] at h2
    have h4 : (wordsL l).length ≤ l.length + 1 := by unfold wordsL; omega
    omega
end Go.Proofs.YtnclbbgdfaeilaaGreatDoor
