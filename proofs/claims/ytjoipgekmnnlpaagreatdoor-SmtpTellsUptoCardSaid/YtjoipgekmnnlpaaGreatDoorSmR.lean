/- Walks: a mail session: rcpt. -/
import Derived.Test.YtjoipgekmnnlpaaGreatDoorSmL
namespace Sm
open Go
theorem bt_inj' {a b : List UInt8} (h : (⟨a.toArray⟩ : ByteArray) = ⟨b.toArray⟩) : a = b := by
  injection h with h
  simpa using h
/-- what rcpt answers: the code, and an address to be added -/
def rcptC (has : Bool) (L : List (List UInt8)) (rest : List UInt8) : Nat × Option (List UInt8) :=
  if has = false then (503, none) else
  match path2 toK rest with
  | none => (501, none)
  | some (a, y) =>
    if (!y.isEmpty || !mayW a) = true then (501, none) else
    if L.contains a = true then (250, none) else
    if 16 ≤ L.length then (452, none) else (250, some a)
theorem rcptW_eq (st : Ses) (rest : List UInt8) : rcptW st rest = (match (rcptC st.sender.isSome st.to rest).2 with | none => st | some a => { st with «to» := st.to ++ [a] }, repW (rcptC st.sender.isSome st.to rest).1) := by
  unfold rcptW rcptC
  split
  · rfl
  · cases path2 toK rest with
    | none => rfl
    | some p =>
      simp only
      split
      · rfl
      · split
        · rfl
        · split <;> rfl
theorem beginW_len {k l x : List UInt8} (h : beginW k l = some x) : x.length ≤ l.length := by
  unfold beginW at h
  split at h
  · injection h with h
    rw [← h, List.length_drop]; omega
  · cases h
theorem pathW_len {l a y : List UInt8} (h : pathW l = some (a, y)) : a.length ≤ l.length ∧ y.length ≤ l.length := by
  cases l with
  | nil => cases h
  | cons c l =>
    rw [pathW_cons] at h
    split at h
    · injection h with h
      injection h with h1 h2
      have t1 := (List.takeWhile_sublist (fun c => decide (c ≠ 62)) (l := l)).length_le
      have t2 := (List.dropWhile_sublist (fun c => decide (c ≠ 62)) (l := l)).length_le
      rw [← h1, ← h2, List.length_tail, List.length_cons]
      omega
    · cases h
theorem path2_len {k l a y : List UInt8} (h : path2 k l = some (a, y)) : a.length ≤ l.length ∧ y.length ≤ l.length := by
  unfold path2 at h
  cases hb : beginW k l with
  | none => rw [hb] at h; cases h
  | some x =>
    rw [hb] at h
    have t1 := beginW_len hb
    have t2 := pathW_len (show pathW (x.dropWhile blk) = some (a, y) from h)
    have t3 := (List.dropWhile_sublist blk (l := x)).length_le
    omega
end Sm
namespace Go.Proofs.YtjoipgekmnnlpaaGreatDoor
open Go.RowKit Go.Shelf Go.Lib Pk Sm

variable {G : Nat} {w : World} {sb : Nat} {most : Int} {fp kv sp tv bp : Value} {g lg wt ov : Bool}
theorem bt_map_mem (L : List (List UInt8)) (a : List UInt8) : containsS (L.map bt) (bt a) = L.contains a := by
  rw [Bool.eq_iff_iff, containsS_iff, List.contains_iff_mem, List.mem_map]
  constructor
  · rintro ⟨b, hb, e⟩
    rw [← bt_inj' e]; exact hb
  · exact fun h => ⟨a, h, rfl⟩
theorem hasQ (L : List (List UInt8)) (a : List UInt8) (hq : Qs txL True w 9 tv (L.map bt)) (hl : L.length ≤ 1000) :
    Calls Tryz.prog 95 #[tv, .string (bt a)] w fun e w' => e = .returned (.bool (L.contains a)) ∧ w' = w := by
  rcases hq with ⟨rfl, e⟩ | ⟨b, o, cap, cur, fz, rfl, h1, h2, h3, h4, h5, -, h6⟩
  · have : L = [] := by simpa using e
    subst this
    exact Tryz.slices_Contains_string_empty none 0 (bt a) w
  · have := Tryz.slices_Contains_string b o (L.map bt).length cap (L.map bt) (bt a) w (Nat.le_refl _) (by rw [List.length_map]; omega) (fun j hj => by
      rw [cell_cur h3]
      refine h6 j _ ?_
      rw [txL_enc, List.getElem?_map, List.getD_eq_getElem?_getD, List.getElem?_eq_getElem hj]
      rfl)
    rw [List.take_length, bt_map_mem] at this
    exact this
theorem asc_to : Asc toK := by
  intro b hb
  simp [toK] at hb
  rcases hb with rfl | rfl | rfl <;> decide
theorem txG : GSl txL 16 Tryz.prog 22 9 := GSl.of Tryz.underlying22 (by kernel_rfl)
theorem Raw.ne_q {L : List ByteArray} {v : Value} (h : Raw w sb most fp kv g sp tv bp lg wt ov) (hq : Qs txL True w 9 v L) : v.ownBlock ≠ some sb := by
  intro e
  rcases hq with ⟨rfl, -⟩ | ⟨g', o, cap, cur, fz, rfl, -, -, h3, -⟩
  · cases e
  · injection e with e
    have e : g' = sb := e
    subst e
    rw [show w.heap[g']? = _ from h] at h3
    injection h3 with h3
    injection h3 with _ h3 _
    exact absurd h3 (by decide)
/-- the blocks that rcpt may turn -/
def RX (sb : Nat) (tv : Value) (k : Nat) : Prop := k = sb ∨ tv.ownBlock = some k
/-- what rcpt leaves -/
def RcptP (w w' : World) (sb : Nat) (most : Int) (fp kv : Value) (g : Bool) (sp tv bp : Value) (lg wt ov : Bool) (L : List (List UInt8)) (c : Nat × Option (List UInt8)) (e : Ending) : Prop :=
  e = .returned (.string (bt (repW c.1))) ∧ Fr (RX sb tv) w w' ∧
  match c.2 with
  | none => Raw w' sb most fp kv g sp tv bp lg wt ov ∧ Below w.heap.size w w'
  | some a => ∃ v', Raw w' sb most fp kv g sp v' bp lg wt ov ∧ Qs txL True w' 9 v' ((L ++ [a]).map bt) ∧ NewOwn w tv v'
theorem rcpt_pre {w1 : World} {L : List ByteArray} (A : ByteArray) (h : Raw w sb most fp kv g sp tv bp lg wt ov) (hq : Qs txL True w 9 tv L) (hb : Below w.heap.size w w1) :
    Hid (Qs txL True (w1.alloc (.cells #[.string A] 9)) 9 tv L) ∧ Hid (Raw (w1.alloc (.cells #[.string A] 9)) sb most fp kv g sp tv bp lg wt ov) := by
  have hb2 : Below w.heap.size w (w1.alloc (.cells #[.string A] 9)) := hb.alloc hb.size _
  exact ⟨hq.kept fun g e => hb2.block g (hq.lt e), h.later hb2⟩
/-- behind the append -/
def RcptQ (w w3 : World) (sb : Nat) (most : Int) (fp kv : Value) (g : Bool) (sp tv bp : Value) (lg wt ov : Bool) (L : List ByteArray) (v' : Value) : Prop :=
  Fr (RX sb tv) w (w3.setCell ⟨sb, 5, none⟩ v') ∧ Raw (w3.setCell ⟨sb, 5, none⟩ v') sb most fp kv g sp v' bp lg wt ov ∧ Qs txL True (w3.setCell ⟨sb, 5, none⟩ v') 9 v' L ∧ NewOwn w tv v'
theorem rcpt_post {w1 w3 : World} {A : ByteArray} {L L' : List ByteArray} {v' : Value} (h : Raw (w1.alloc (.cells #[.string A] 9)) sb most fp kv g sp tv bp lg wt ov) (hq : Qs txL True (w1.alloc (.cells #[.string A] 9)) 9 tv L)
    (hq3 : Qs txL True w3 9 v' L') (hg3 : (w1.alloc (.cells #[.string A] 9)).grownBy w3 tv.ownBlock) (hn3 : NewOwn (w1.alloc (.cells #[.string A] 9)) tv v') (hb : Below w.heap.size w w1) :
    Hid (RcptQ w w3 sb most fp kv g sp tv bp lg wt ov L' v') ∧ w3.cell? ⟨sb, 5, none⟩ = some tv ∧ w3.frozen? ⟨sb, 5, none⟩ = false ∧ Hid (Raw w3 sb most fp kv g sp tv bp lg wt ov) := by
  have hne := h.ne_q hq
  have hb2 : Below w.heap.size w (w1.alloc (.cells #[.string A] 9)) := hb.alloc hb.size _
  have h3 : Raw w3 sb most fp kv g sp tv bp lg wt ov := (hg3.block sb h.lt (fun e => hne e.symm)).trans h
  have hne3 : v'.ownBlock ≠ some sb := by
    rcases hn3 with e | e
    · rw [e]; exact hne
    · intro e'; have := e sb e'; have := h.lt; omega
  have hf : Fr (fun k => tv.ownBlock = some k) (w1.alloc (.cells #[.string A] 9)) w3 := ⟨hg3.os, hg3.tape, hg3.output, hg3.size, fun k hk hx => hg3.block k hk fun e => hx e.symm⟩
  refine ⟨⟨?_, h3.set5 v', hq3.kept fun g e => Below.heap_setCell _ _ _ _ fun e' => hne3 (by rw [e, show g = sb from e']), ?_⟩, h3.cells.1.2.2.2.2.2.1, h3.cells.2 5, h3⟩
  · exact ((Fr.of_below (X := RX sb tv) hb2).trans hf (fun k e => .inl (.inr e))).setCell (.inl rfl) _
  · rcases hn3 with e | e
    · exact .inl e
    · exact .inr fun k hk => by have := e k hk; have := hb2.size; omega
set_option maxHeartbeats 4000000 in
set_option maxRecDepth 100000 in
theorem rcpt_any (L : List (List UInt8)) (rest : ByteArray) (hs : rest.size ≤ 1000000) (has : Bool) (hsp : if has = true then ∃ p, sp = .pointer (some p) else sp = .pointer none) (hC : Ctx G w) (hG : G ≤ sb) (h : Raw w sb most fp kv g sp tv bp lg wt ov)
    (hq : Qs txL True w 9 tv (L.map bt)) (hGt : ∀ k, tv.ownBlock = some k → G ≤ k) (hl : L.length ≤ 1000) :
    Calls Tryz.prog 62 #[.pointer (some ⟨sb, 0, none⟩), .string rest] w fun e w' => RcptP w w' sb most fp kv g sp tv bp lg wt ov L (rcptC has L rest.data.toList) e := by
  obtain ⟨⟨-, -, -, -, c4, c5, -⟩, hf⟩ := h.cells
  cases has with
  | false =>
    rw [if_neg (by decide)] at hsp
    subst hsp
    have e0 : rcptC false L rest.data.toList = (503, none) := rfl
    rw [e0]
    have H := Lib.hid h
    have HC := Lib.hid hC
    clear hf h hC hq
    go_enter Tryz.func62, Tryz.ntmps62
    have HR := Lib.hid (reply_at 503 (by decide) (by decide) HC.out)
    go_wp2_with fail
    refine HR.out.mono ?_
    rintro e w9 ⟨rfl, hb9⟩
    go_wp2
    go_ret
    exact ⟨rfl, Fr.of_below hb9, H.out.later hb9, hb9⟩
  | true =>
    rw [if_pos rfl] at hsp
    obtain ⟨p, rfl⟩ := hsp
    obtain ⟨m, hm⟩ := hC.max
    have hP := pathS_any rest (bt toK) w hs (by rw [bt_data]; exact asc_to) hC.u8 m hm
    rw [bt_data] at hP
    unfold rcptC
    rw [if_neg (by decide)]
    cases hp : path2 toK rest.data.toList with
    | none =>
      rw [hp] at hP
      have HP := Lib.hid hP
      have H := Lib.hid h
      have HC := Lib.hid hC
      clear hf h hC hq hP hp hm
      show Calls _ _ _ _ (fun e w' => RcptP w w' sb most fp kv g (.pointer (some p)) tv bp lg wt ov L (501, none) e)
      go_enter Tryz.func62, Tryz.ntmps62
      go_wp2_with fail
      refine HP.out.mono ?_
      rintro e w1 ⟨rfl, hb1⟩
      have HB := Lib.hid hb1
      clear hb1
      have HR := Lib.hid (reply_at 501 (by decide) (by decide) (HC.out.below HB.out))
      go_wp2_with fail
      refine HR.out.mono ?_
      rintro e w9 ⟨rfl, hb9⟩
      go_wp2
      go_ret
      exact ⟨rfl, (Fr.of_below HB.out).then hb9, (H.out.later HB.out).later hb9, HB.out.trans (hb9.mono HB.out.size)⟩
    | some q =>
      obtain ⟨a, y⟩ := q
      rw [hp] at hP
      obtain ⟨la, ly⟩ := path2_len hp
      have hpl : rest.data.toList.length = rest.size := rfl
      have hP' : Calls Tryz.prog 92 #[.string rest, .string (bt toK)] w fun e w' => e = .returned (.tuple #[.string (bt a), .string (bt y), .bool true]) ∧ Below w.heap.size w w' := hP
      have hya : (bt y).size = y.length := by show y.toArray.size = _; simp
      have haa : (bt a).size = a.length := by show a.toArray.size = _; simp
      have hM := fun W => mayS_any (bt a) W (by omega)
      rw [bt_data] at hM
      have hKt : bt toK = ⟨#[84, 79, 58]⟩ := rfl
      rw [hKt] at hP'
      have HP := Lib.hid hP'
      have H := Lib.hid h
      have HC := Lib.hid (And.intro hC hG)
      have HQ := Lib.hid hq
      have HH := Lib.hid (fun W (hb : Below w.heap.size w W) => hasQ (w := W) L a (hq.kept fun g e => hb.block g (hq.lt e)) hl)
      clear hP hP' hp hm hpl la hKt
      by_cases hy : y = []
      · subst hy
        have q2 : bt ([] : List UInt8) = ⟨#[]⟩ := rfl
        rw [q2] at HP
        cases hmw : mayW a with
        | false =>
          rw [hmw] at hM
          have HM := Lib.hid hM
          show Calls _ _ _ _ (fun e w' => RcptP w w' sb most fp kv g (.pointer (some p)) tv bp lg wt ov L (if (!([] : List UInt8).isEmpty || !mayW a) = true then (501, none) else if L.contains a = true then (250, none) else if 16 ≤ L.length then (452, none) else (250, some a)) e)
          rw [if_pos (by rw [hmw]; decide)]
          clear hM h hC hG hq hf hmw q2
          go_enter Tryz.func62, Tryz.ntmps62
          go_wp2_with fail
          refine HP.out.mono ?_
          rintro e w1 ⟨rfl, hb1⟩
          have HB := Lib.hid hb1
          clear hb1
          go_wp2_with fail
          refine (HM.out _).mono ?_
          rintro e w2 ⟨rfl, rfl⟩
          have HR := Lib.hid (reply_at 501 (by decide) (by decide) (HC.out.1.below HB.out))
          go_wp2_with fail
          refine HR.out.mono ?_
          rintro e w9 ⟨rfl, hb9⟩
          go_wp2
          go_ret
          exact ⟨rfl, (Fr.of_below HB.out).then hb9, (H.out.later HB.out).later hb9, HB.out.trans (hb9.mono HB.out.size)⟩
        | true =>
          rw [hmw] at hM
          have HM := Lib.hid hM
          obtain ⟨pt, ct, htv, hct⟩ := hq.form
          rw [List.length_map] at htv hct
          subst htv
          have he : ∀ x : Nat × Option (List UInt8), (if (!([] : List UInt8).isEmpty || !mayW a) = true then (501, none) else x) = x := fun x => if_neg (by rw [hmw]; decide)
          show Calls _ _ _ _ (fun e w' => RcptP w w' sb most fp kv g (.pointer (some p)) (.slice pt L.length ct) bp lg wt ov L (if (!([] : List UInt8).isEmpty || !mayW a) = true then (501, none) else if L.contains a = true then (250, none) else if 16 ≤ L.length then (452, none) else (250, some a)) e)
          rw [he]
          cases hc : L.contains a with
          | true =>
            rw [if_pos rfl]
            rw [hc] at HH
            clear hM h hC hG hq hf hmw q2 he hc hct
            go_enter Tryz.func62, Tryz.ntmps62
            go_wp2_with fail
            refine HP.out.mono ?_
            rintro e w1 ⟨rfl, hb1⟩
            have HB := Lib.hid hb1
            have c5 := (H.out.later hb1).cells.1.2.2.2.2.2.1
            clear hb1
            go_wp2_with fail
            refine (HM.out _).mono ?_
            rintro e w2 ⟨rfl, rfl⟩
            go_wp2_with fail
            refine (HH.out _ HB.out).mono ?_
            rintro e w2 ⟨rfl, rfl⟩
            have HR := Lib.hid (reply_at 250 (by decide) (by decide) (HC.out.1.below HB.out))
            go_wp2_with fail
            refine HR.out.mono ?_
            rintro e w9 ⟨rfl, hb9⟩
            go_wp2
            go_ret
            exact ⟨rfl, (Fr.of_below HB.out).then hb9, (H.out.later HB.out).later hb9, HB.out.trans (hb9.mono HB.out.size)⟩
          | false =>
            rw [if_neg (by decide)]
            rw [hc] at HH
            by_cases h16 : 16 ≤ L.length
            · rw [if_pos h16]
              have t1 : decide ((16 : Int) ≤ (L.length : Int)) = true := decide_eq_true (by omega)
              have t2 : decide (16 ≤ L.length) = true := decide_eq_true h16
              clear hM h hC hG hq hf hmw q2 he hc hct h16
              go_enter Tryz.func62, Tryz.ntmps62
              go_wp2_with fail
              refine HP.out.mono ?_
              rintro e w1 ⟨rfl, hb1⟩
              have HB := Lib.hid hb1
              have c5 := (H.out.later hb1).cells.1.2.2.2.2.2.1
              clear hb1
              go_wp2_with fail
              refine (HM.out _).mono ?_
              rintro e w2 ⟨rfl, rfl⟩
              go_wp2_with fail
              refine (HH.out _ HB.out).mono ?_
              rintro e w2 ⟨rfl, rfl⟩
              have HR := Lib.hid (reply_at 452 (by decide) (by decide) (HC.out.1.below HB.out))
              go_wp2_with fail
              refine HR.out.mono ?_
              rintro e w9 ⟨rfl, hb9⟩
              go_wp2
              go_ret
              exact ⟨rfl, (Fr.of_below HB.out).then hb9, (H.out.later HB.out).later hb9, HB.out.trans (hb9.mono HB.out.size)⟩
            · rw [if_neg h16]
              have t1 : decide ((16 : Int) ≤ (L.length : Int)) = false := decide_eq_false (by omega)
              have t2 : decide (16 ≤ L.length) = false := decide_eq_false h16
              have HGt := Lib.hid hGt
              clear hM h hC hG hq hf hmw q2 he hc hct h16 hGt
              go_enter Tryz.func62, Tryz.ntmps62
              go_wp2_with fail
              refine HP.out.mono ?_
              rintro e w1 ⟨rfl, hb1⟩
              have HB := Lib.hid hb1
              have c5 := (H.out.later hb1).cells.1.2.2.2.2.2.1
              clear hb1
              go_wp2_with fail
              refine (HM.out _).mono ?_
              rintro e w2 ⟨rfl, rfl⟩
              go_wp2_with fail
              refine (HH.out _ HB.out).mono ?_
              rintro e w2 ⟨rfl, rfl⟩
              obtain ⟨HQ2, HR2⟩ := rcpt_pre (bt a) H.out HQ.out HB.out
              go_wp2_with (at_builtin; refine append_q rfl (.tmp 23) (.tmp 25) txG rfl rfl HQ2.out (.slice (some ⟨w2.heap.size, 0, none⟩) 1 1) [bt a] rfl (Src.ofSlice _ Tryz.underlying22 _ 1 1 [.string (bt a)] rfl (cell_one_new _ _ _) (by intro u hu; simp at hu; subst hu; rfl)) (by rw [List.length_map]; simp; omega) (by rw [List.length_map]; simp; omega) ?_; intro v' w3 hq3 hg3 hn3; obtain ⟨HY, d5, f5, h3⟩ := rcpt_post HR2.out HQ2.out hq3 hg3 hn3.1 HB.out; obtain ⟨p2, c2, hf2, hc2⟩ := hq3.form; subst hf2; clear hq3 hg3 hn3 hc2)
              have HY' := HY.out
              rw [show (L.map bt ++ [bt a]).length = L.length + 1 by simp] at HY'
              have HZ := Lib.hid HY'
              have HC3 := Lib.hid (HC.out.1.fr (X := RX sb (.slice pt L.length ct)) (fun k e => by rcases e with e | e; (rw [e]; exact HC.out.2); exact HGt.out k e) HY'.1)
              clear HY HY' HR2 HQ2 h3
              have HR := Lib.hid (reply_at 250 (by decide) (by decide) HC3.out)
              go_wp2_with fail
              refine HR.out.mono ?_
              rintro e w9 ⟨rfl, hb9⟩
              go_wp2
              go_ret
              obtain ⟨y1, y2, y3, y4⟩ := HZ.out
              refine ⟨rfl, y1.then hb9, .slice p2 (L.length + 1) c2, y2.later hb9, ?_, y4⟩
              rw [List.map_append]
              exact y3.kept fun g e => hb9.block g (y3.lt e)
      · have q1 : (bt y).toList.isEmpty = false := str_neq (by rw [hya]; exact List.length_pos_iff.2 hy)
        have he : (!y.isEmpty || !mayW a) = true := by
          cases y with
          | nil => exact absurd rfl hy
          | cons c r => rfl
        rw [show (match some (a, y) with | none => ((501, none) : Nat × Option (List UInt8)) | some (a, y) => if (!y.isEmpty || !mayW a) = true then (501, none) else if L.contains a = true then (250, none) else if 16 ≤ L.length then (452, none) else (250, some a)) = (501, none) from if_pos he]
        generalize bt y = Y at *
        clear hM h hC hG hq hf he hya hy HH
        go_enter Tryz.func62, Tryz.ntmps62
        go_wp2_with fail
        refine HP.out.mono ?_
        rintro e w1 ⟨rfl, hb1⟩
        have HB := Lib.hid hb1
        clear hb1
        have HR := Lib.hid (reply_at 501 (by decide) (by decide) (HC.out.1.below HB.out))
        go_wp2_with fail
        refine HR.out.mono ?_
        rintro e w9 ⟨rfl, hb9⟩
        go_wp2
        go_ret
        exact ⟨rfl, (Fr.of_below HB.out).then hb9, (H.out.later HB.out).later hb9, HB.out.trans (hb9.mono HB.out.size)⟩
end Go.Proofs.YtjoipgekmnnlpaaGreatDoor
