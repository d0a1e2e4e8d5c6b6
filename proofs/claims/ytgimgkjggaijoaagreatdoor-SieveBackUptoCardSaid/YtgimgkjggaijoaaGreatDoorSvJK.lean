/- Walks: formatting of numbers and arguments of filter scripts. Walks: formatting of tests of filter scripts. -/
import Derived.Test.YtgimgkjggaijoaaGreatDoorSvSa
import Derived.Test.YtgimgkjggaijoaaGreatDoorSvPl
import Derived.Test.YtgimgkjggaijoaaGreatDoorLxE
import Derived.Test.YtgimgkjggaijoaaGreatDoorNumP
import Derived.Test.YtgimgkjggaijoaaGreatDoorBld
namespace Go.Proofs.YtgimgkjggaijoaaGreatDoor
open Go.RowKit Pk Lx Sv C1

/-- a string, with what was there as it was -/
def StRet (l : List UInt8) (w : World) (e : Ending) (w' : World) : Prop := e = .returned (.string (toB l)) ∧ Below w.heap.size w w'
theorem bcat (A B : ByteArray) : A ++ B = toB (A.data.toList ++ B.data.toList) := by
  have : ∀ a b : ByteArray, a.data = b.data → a = b := fun a b h => by cases a; cases b; congr 1
  apply this
  rw [ByteArray.data_append]
  unfold toB
  simp
theorem arr2 (l : List UInt8) : ∃ A : ByteArray, A = toB l ∧ A.data.toList = l ∧ A.size = l.length := ⟨toB l, rfl, toB_data l, by unfold toB; simp [ByteArray.size]⟩
set_option maxRecDepth 100000 in
theorem numberW_any (n : Int) (w : World) (h0 : -9223372036854775808 ≤ n) (h1 : n ≤ 9223372036854775807) (ht : TabN w) : Calls Tryz.prog 101 #[.int .i64 n] w (StRet (numW n) w) := by
  by_cases hb : (999999999999 : Int) < n
  · have hq : n.tdiv 1024 = n / 1024 := Int.tdiv_eq_ediv_of_nonneg (by omega)
    have k1 : decide ((999999999999 : Int) < n) = true := decide_eq_true hb
    have hN : numW n = Lib.itoa (n / 1024) ++ [75] := by unfold numW; rw [if_pos hb]
    have hT := text_any (n.tdiv 1024) w (by omega) (by omega) ht
    have hwr : IntKind.i64.wrap (n.tdiv 1024) = n.tdiv 1024 := w64 rfl (by omega) (by omega)
    rw [hq] at hT hwr
    rw [hN]
    have hlen : (Lib.itoa (n / 1024)).length ≤ 21 := itoa_len _ (by omega) (by omega)
    obtain ⟨A, hA, hAd, hAs⟩ := arr2 (Lib.itoa (n / 1024))
    have hA2 : (⟨(Lib.itoa (n / 1024)).toArray⟩ : ByteArray) = A := hA.symm
    rw [hA2] at hT
    have h21 : A.size ≤ 21 := by omega
    have hR : A ++ ⟨#[75]⟩ = toB (Lib.itoa (n / 1024) ++ [75]) := by rw [bcat, hAd]
    have HT := Lib.hid hT
    have HR := Lib.hid hR
    have hqd := hq
    clear hT hR hA hAd hAs hA2 hN hlen hb ht hq
    generalize n / 1024 = m at *
    go_enter Tryz.func101, Tryz.ntmps101
    go_wp2_with fail
    refine HT.out.mono ?_
    rintro e w1 ⟨rfl, hb1⟩
    go_wp2
    go_ret
    exact ⟨by rw [← HR.out]; rfl, hb1⟩
  · have k1 : decide ((999999999999 : Int) < n) = false := decide_eq_false hb
    have hN : numW n = Lib.itoa n := by unfold numW; rw [if_neg hb]
    have HT := Lib.hid (text_any n w h0 h1 ht)
    rw [hN]
    clear hN hb ht
    go_enter Tryz.func101, Tryz.ntmps101
    go_wp2_with fail
    refine HT.out.mono ?_
    rintro e w1 ⟨rfl, hb1⟩
    go_wp2
    go_ret
    exact ⟨rfl, hb1⟩
theorem join_eq (l : List (List UInt8)) : Lib.join l [44, 32] = joinL [44, 32] l := by
  cases l with
  | nil => rfl
  | cons x r =>
    rw [Lib.join_cons]
    show x ++ Lib.joinTail [44, 32] r = x ++ r.flatMap ([44, 32] ++ ·)
    unfold Lib.joinTail
    rw [List.flatMap_def]
/-- a list of strings that the call owns, as Join reads it -/
theorem strs_form {w : World} {B : Nat} {v : Value} {l : List ByteArray} (h : ownsG strL w B 9 v l) : (v = .slice none 0 0 ∧ l = []) ∨ ∃ g c, v = .slice (some ⟨g, 0, none⟩) l.length c ∧ l.length ≤ c ∧ g < w.heap.size ∧ B ≤ g ∧ ∀ (j : Nat) x, l[j]? = some x → w.cell? ⟨g, 0 + j, none⟩ = some (.string x) := by
  rcases h.2 with ⟨h1, h2⟩ | ⟨g, cap, cur, h1, h2, h3, h4, h5, h6, h7⟩
  · exact .inl ⟨h1, List.eq_nil_of_length_eq_zero h2⟩
  · refine .inr ⟨g, cap, h1, h4, lt_of_block h3, h2, fun j x hx => ?_⟩
    have hj := (List.getElem?_eq_some_iff.1 hx).1
    have := World.ownsRow.cells h (g := g) (by rw [h1]; rfl) (j * strL.k + 0) (.string x) (encG_at strL l j hj 0 _ (by rw [(List.getElem?_eq_some_iff.1 hx).2]; rfl))
    rw [Addr.add_lit, Nat.zero_add] at this
    rw [Nat.zero_add]
    simpa [strL] using this
/-- Join, of what the call owns -/
theorem joinO (B : Nat) (v : Value) (l : List ByteArray) (w : World) (h : ownsG strL w B 9 v l) (hN : l.length ≤ 1000000000) (hl : (joinL [44, 32] (l.map (·.data.toList))).length ≤ 140737488355328) :
    Calls Tryz.prog 60 #[v, .string ⟨#[44, 32]⟩] w (StRet (joinL [44, 32] (l.map (·.data.toList))) w) := by
  rcases strs_form h with ⟨rfl, rfl⟩ | ⟨g, c, rfl, h2, h3, -, h4⟩
  · exact (Tryz.strings_Join_none none 0 ⟨#[44, 32]⟩ w).mono fun e w' ⟨h1, h2⟩ => ⟨h1, by rw [h2]; exact Below.refl _ _⟩
  · refine (Tryz.strings_Join g 0 c l ⟨#[44, 32]⟩ w h4 h3 (by omega) h2 (by show (Lib.join _ [44, 32]).length ≤ _; rw [join_eq]; exact hl)).mono fun e w' ⟨h1, h2⟩ => ⟨?_, h2⟩
    rw [h1]
    show Ending.returned (.string (toB (Lib.join _ [44, 32]))) = _
    rw [join_eq]
theorem tx_map (l : List ByteArray) : (l.map fun t => toB (textL t.data.toList)).map (·.data.toList) = l.map fun t => textL t.data.toList := by
  rw [List.map_map]
  exact List.map_congr_left fun t _ => toB_data _
theorem reads_len' {W : World} {X : Nat → Prop} {p : Option Addr} {n c : Nat} {l : List ByteArray} (h : ReadsR strL W X (.slice p n c) l) : n = l.length := by
  obtain ⟨p', c', h1, -, -⟩ := h
  injection h1
theorem wTx_lenJ (l : List ByteArray) : l.length ≤ wTx l := by
  induction l with
  | nil => exact Nat.le_refl _
  | cons t r ih => show r.length + 1 ≤ 1 + t.size + wTx r; omega
theorem wTx_at : ∀ (l : List ByteArray) (i : Nat) (h : i < l.length), l[i].size ≤ wTx l
  | x :: r, 0, h => by show x.size ≤ 1 + x.size + wTx r; omega
  | x :: r, i + 1, h => by have := wTx_at r i (by simpa using h); show (r[i]'(by simpa using h)).size ≤ 1 + x.size + wTx r; omega
theorem take_snocM {α β : Type} (f : α → β) (l : List α) (i : Nat) (h : i < l.length) : (l.take i).map f ++ [f l[i]] = (l.take (i + 1)).map f := by
  rw [List.take_succ_eq_append_getElem h, List.map_append]; rfl
set_option maxHeartbeats 4000000 in
set_option maxRecDepth 100000 in
theorem argument_any (X : Nat → Prop) (p : Option Addr) (n c : Nat) (a : ArgT) (w : World) (hX : ReadsR strL w X (.slice p n c) a.texts) (hr : argRng a) (hs : wA a ≤ 1000000) (ht : TabN w) : Calls Tryz.prog 59 #[.agg #[.int .i64 a.k, .string a.tag, .int .i64 a.n, .slice p n c, .bool a.list]] w (StRet (argW a) w) := by
  have hb := (Below.refl w.heap.size w).alloc (Nat.le_refl _) (.cells #[.int .i64 a.k, .string a.tag, .int .i64 a.n, .slice p n c, .bool a.list] 50)
  have HB := Lib.hid hb
  have htag : a.tag.size ≤ 1000000 := by unfold wA at hs; omega
  by_cases h1 : a.k = 1
  · have n1 : (a.k == 1) = true := beq_iff_eq.2 h1
    have hW : argW a = 32 :: 58 :: a.tag.data.toList := by unfold argW; rw [if_pos h1]
    have HR := Lib.hid (show (⟨#[32, 58]⟩ ++ a.tag : ByteArray) = toB (argW a) from by rw [bcat, hW]; rfl)
    generalize argW a = Z at *
    generalize a.tag = tg at *
    generalize a.k = K at *
    clear hW hX hr hs hb h1 ht
    go_enter Tryz.func59, Tryz.ntmps59
    go_wp2
    go_ret
    exact ⟨by rw [← HR.out]; rfl, HB.out⟩
  · have n1 : (a.k == 1) = false := beq_eq_false_iff_ne.2 h1
    by_cases h2 : a.k = 2
    · have n2 : (a.k == 2) = true := beq_iff_eq.2 h2
      have hW : argW a = 32 :: numW a.n := by unfold argW; rw [if_neg h1, if_pos h2]
      have hT := numberW_any a.n (w.alloc (.cells #[.int .i64 a.k, .string a.tag, .int .i64 a.n, .slice p n c, .bool a.list] 50)) hr.1 hr.2 (ht.later hb)
      have hnl := numW_len a.n hr.1 hr.2
      unfold StRet at hT
      obtain ⟨A, hA, hAd, hAs⟩ := arr2 (numW a.n)
      rw [← hA] at hT
      have h22 : A.size ≤ 22 := by omega
      have HT := Lib.hid hT
      have HR := Lib.hid (show (⟨#[32]⟩ ++ A : ByteArray) = toB (argW a) from by rw [bcat, hW, hAd]; rfl)
      generalize argW a = Z at *
      generalize a.tag = tg at *
      generalize a.k = K at *
      generalize a.n = N at *
      clear hW hX hr hs hb h1 h2 ht hT hA hAd hAs hnl
      go_enter Tryz.func59, Tryz.ntmps59
      go_wp2_with fail
      refine HT.out.mono ?_
      rintro e w1 ⟨rfl, hb1⟩
      go_wp2
      go_ret
      exact ⟨by rw [← HR.out]; rfl, HB.out.trans (hb1.mono HB.out.size)⟩
    · have n2 : (a.k == 2) = false := beq_eq_false_iff_ne.2 h2
      have hW : argW a = 32 :: (if a.list = true then 91 :: (joinL [44, 32] (a.texts.map fun t => textL t.data.toList) ++ [93]) else joinL [44, 32] (a.texts.map fun t => textL t.data.toList)) := by unfold argW; rw [if_neg h1, if_neg h2]
      have hwT : wTx a.texts ≤ 1000000 := by unfold wA at hs; omega
      have hjl := joinL_len (a.texts.map fun t => textL t.data.toList)
      rw [List.map_map] at hjl
      have hjl2 := wTx_len a.texts
      have hjl4 : (joinL [44, 32] (a.texts.map fun t => textL t.data.toList)).length ≤ 4000000 := Nat.le_trans hjl (Nat.le_trans hjl2 (by omega))
      clear hjl hjl2
      generalize argW a = Z at *
      generalize a.tag = tg at *
      generalize a.k = K at *
      generalize a.n = N at *
      generalize a.list = ls at *
      generalize a.texts = T at *
      obtain rfl := reads_len' hX
      obtain ⟨p', c', he, hc, hA⟩ := rdCell hX
      injection he with e1 e2 e3
      subst e1 e3
      have HA := Lib.hid hA
      have hTl := wTx_lenJ T
      have hsz : ∀ i (h : i < T.length), T[i].size ≤ 1000000 := fun i h => by have := wTx_at T i h; omega
      have hjo := fun v wr (ho : ownsG strL wr (w.alloc (.cells #[.int .i64 K, .string tg, .int .i64 N, .slice p T.length c, .bool ls] 50)).heap.size 9 v (T.map fun t => toB (textL t.data.toList))) => joinO _ v _ wr ho (by rw [List.length_map]; omega) (by rw [tx_map]; omega)
      rw [tx_map] at hjo
      obtain ⟨J, hJ, hJd, hJs⟩ := arr2 (joinL [44, 32] (T.map fun t => textL t.data.toList))
      unfold StRet at hjo
      rw [← hJ] at hjo
      have hJz : J.size ≤ 4000000 := by omega
      have HJ := Lib.hid hjo
      have HR1 := Lib.hid (show ls = false → (⟨#[32]⟩ ++ J : ByteArray) = toB Z from fun h => by rw [hW, h, bcat, hJd]; rfl)
      have HR2 := Lib.hid (show ls = true → (⟨#[32]⟩ ++ (⟨#[91]⟩ ++ J ++ ⟨#[93]⟩) : ByteArray) = toB Z from fun h => by rw [hW, h, bcat, bcat, bcat, hJd, toB_data, toB_data]; rfl)
      have HS := Lib.hid hsz
      clear hA hX hsz hjo hJ hJd hJs hW hjl4 hs h1 h2 ht hr htag
      go_enter Tryz.func59, Tryz.ntmps59
      go_wp2
      have hw0 := (cell5 (heap_alloc_new w (.cells #[.int .i64 K, .string tg, .int .i64 N, .slice p T.length c, .bool ls] 50))).2.2.2.2
      generalize w.alloc (.cells #[.int .i64 K, .string tg, .int .i64 N, .slice p T.length c, .bool ls] 50) = w1 at *
      go_loopw [3, 5, 23] (fun lv _ iv wr => ∃ i : Nat, iv = .int .i64 i ∧ Below w1.heap.size w1 wr ∧ i ≤ T.length ∧ ownsG strL wr w1.heap.size 9 lv ((T.take i).map fun t => toB (textL t.data.toList))) (fun _ _ iv _ => T.length - (intOf iv).toNat)
      case atStart => exact ⟨0, by first | rfl | trivial, Below.refl _ _, by omega, ownsG.nil _ _ _ _⟩
      case round =>
        obtain ⟨i, rfl, hbel, hi, hown⟩ := hrel
        by_cases hlt : i < T.length
        · rcases HA.out with h0 | ⟨ga, oa, rfl, hca2⟩
          · rw [h0, List.length_nil] at hlt; omega
          · have k1 : wr.cell? ⟨ga, oa + i, none⟩ = some (.string T[i]) := by
              have := hca2 i hlt 0 _ rfl
              have h2 := cell_later (HB.out.trans (hbel.mono HB.out.size)) this
              simpa [strL] using h2
            have HT := Lib.hid (lexText_any T[i] wr (HS.out i hlt))
            have hsn := take_snocM (fun t => toB (textL t.data.toList)) T i hlt
            have hsn2 : ((T.take i).map fun t => toB (textL t.data.toList)).length = i := by rw [List.length_map, List.length_take]; omega
            have hz1 := hbel.size
            generalize toB (textL T[i].data.toList) = Q at *
            generalize T[i] = q at *
            clear hca2
            go_wp2_with fail
            refine HT.out.mono ?_
            rintro e w2 ⟨rfl, hb2⟩
            have hz2 := hb2.size
            have ho2 : ownsG strL w2 w1.heap.size 9 u3 ((T.take i).map fun t => toB (textL t.data.toList)) := hown.below hb2 (Nat.le_refl _)
            have HO := Lib.hid (show ∀ v' w', ownsG strL w' w1.heap.size 9 v' (((T.take i).map fun t => toB (textL t.data.toList)) ++ [Q]) → ownsG strL w' w1.heap.size 9 v' ((T.take (i + 1)).map fun t => toB (textL t.data.toList)) from fun v' w' h => by rw [← hsn]; exact h)
            generalize (T.take i).map (fun t => toB (textL t.data.toList)) = L at *
            clear hsn hown
            go_wp2_with (at_builtin; go_loud (refine append_g _ rfl (.tmp 27) (.tmp 30) slS rfl w1.heap.size _ L rfl (ownsG.alloc ho2 _) ⟨_, 0, none⟩ [Q] 1 1 rfl rfl (cells_at _ _ (by simp) _ _) (by omega) (by omega) (by simp; omega) ?_; intro v6 w6 hown6 hg6; have hb6 := Below_grownG ((hbel.trans (hb2.mono hz1)).alloc (by omega) (.cells #[.string Q] 9)) (ownsG.alloc ho2 _) hg6 (by simp; omega)))
            go_roundw
            case rel => exact ⟨i + 1, by go_num, hb6, by omega, HO.out _ _ hown6⟩
            case measure => simp [intOf]; omega
        · have hie : i = T.length := by omega
          have hown : ownsG strL wr w1.heap.size 9 u3 (T.map fun t => toB (textL t.data.toList)) := by rw [hie, List.take_length] at hown; exact hown
          have hJ := Lib.hid (HJ.out _ _ hown)
          have hbB := HB.out.trans (hbel.mono HB.out.size)
          have c4 : wr.cell? ⟨w.heap.size, 4, none⟩ = some (.bool ls) := cell_later hbel hw0
          clear hie hown
          cases ls with
          | false =>
            have HR := Lib.hid (HR1.out rfl)
            clear HR1 HR2
            go_wp2_with fail
            refine hJ.out.mono ?_
            rintro e w2 ⟨rfl, hb2⟩
            have c5 := cell_later hb2 c4
            go_wp2
            go_ret
            exact ⟨by rw [← HR.out]; rfl, hbB.trans (hb2.mono hbB.size)⟩
          | true =>
            have HR := Lib.hid (HR2.out rfl)
            clear HR1 HR2
            go_wp2_with fail
            refine hJ.out.mono ?_
            rintro e w2 ⟨rfl, hb2⟩
            have c5 := cell_later hb2 c4
            go_wp2
            go_ret
            exact ⟨by rw [← HR.out]; rfl, hbB.trans (hb2.mono hbB.size)⟩
end Go.Proofs.YtgimgkjggaijoaaGreatDoor
namespace Go.Proofs.YtgimgkjggaijoaaGreatDoor
open Go.RowKit Pk Lx Sv C1

theorem testsW_len' : ∀ (ts : List TestT), (testsW ts).length = ts.length
  | [] => rfl
  | t :: r => by show (testsW r).length + 1 = r.length + 1; rw [testsW_len' r]
theorem testsW_at : ∀ (ts : List TestT) (i : Nat) (h : i < ts.length) (h2 : i < (testsW ts).length), (testsW ts)[i] = testW ts[i]
  | t :: r, 0, h, h2 => rfl
  | t :: r, i + 1, h, h2 => testsW_at r i (by simpa using h) (by have := testsW_len' r; simp at h; omega)
theorem testW_what (t : TestT) : testW t = whatW (tName t) (tArgs t) (testsW (tKids t)) := by cases t; rfl
theorem rT_parts (t : TestT) : rT t ↔ ((∀ a ∈ tArgs t, argRng a) ∧ rTs (tKids t)) := by cases t; exact Iff.rfl
theorem nT_parts (t : TestT) : nT t = (tName t).size + nTs (tKids t) := by cases t; rfl
theorem mT_parts (t : TestT) : mT t = 1 + wAs (tArgs t) + mTs (tKids t) := by cases t; rfl
theorem rTs_at : ∀ {l : List TestT} (i : Nat) (h : i < l.length), rTs l → rT l[i]
  | t :: r, 0, h, hr => hr.1
  | t :: r, i + 1, h, hr => rTs_at (l := r) i (by simpa using h) hr.2
theorem nTs_at : ∀ {l : List TestT} (i : Nat) (h : i < l.length), nT l[i] ≤ nTs l
  | x :: r, 0, h => by show nT x ≤ nT x + nTs r; omega
  | x :: r, i + 1, h => by have := nTs_at (l := r) i (by simpa using h); show nT (r[i]'(by simpa using h)) ≤ nT x + nTs r; omega
theorem mTs_at : ∀ {l : List TestT} (i : Nat) (h : i < l.length), mT l[i] ≤ mTs l
  | x :: r, 0, h => by show mT x ≤ mT x + mTs r; omega
  | x :: r, i + 1, h => by have := mTs_at (l := r) i (by simpa using h); show mT (r[i]'(by simpa using h)) ≤ mT x + mTs r; omega
theorem mTs_len (l : List TestT) : l.length ≤ mTs l := by
  induction l with
  | nil => exact Nat.zero_le _
  | cons t r ih => show r.length + 1 ≤ mT t + mTs r; rw [mT_parts]; omega
/-- what stands formatted when i tests are done -/
def TsTo (ts : List TestT) (i : Nat) (L : List ByteArray) : Prop := L.map (·.data.toList) ++ (testsW ts).drop i = testsW ts
theorem tsTo_step {ts : List TestT} {i : Nat} {L : List ByteArray} (h : TsTo ts i L) (hi : i < ts.length) : TsTo ts (i + 1) (L ++ [toB (testW ts[i])]) := by
  unfold TsTo at *
  have h2 : i < (testsW ts).length := by rw [testsW_len']; exact hi
  rw [List.drop_eq_getElem_cons h2, testsW_at ts i hi h2] at h
  rw [List.map_append, List.map_singleton, toB_data, List.append_assoc]
  exact h
theorem tsTo_end {ts : List TestT} {i : Nat} {L : List ByteArray} (h : TsTo ts i L) (hi : ¬ i < ts.length) : L.map (·.data.toList) = testsW ts := by
  unfold TsTo at h
  rw [List.drop_eq_nil_of_le (by rw [testsW_len']; omega), List.append_nil] at h
  exact h
theorem sum_le_joinL (l : List (List UInt8)) : (joinL [44, 32] l).length ≤ (l.map fun x => x.length + 4).sum := by
  have h := joinL_len l
  have : ∀ q : List (List UInt8), (q.map fun x => x.length + 2).sum ≤ (q.map fun x => x.length + 4).sum := by
    intro q
    induction q with
    | nil => exact Nat.le_refl _
    | cons z q ih => rw [List.map_cons, List.map_cons, List.sum_cons, List.sum_cons]; omega
  exact Nat.le_trans h (this l)
theorem ws_to (B b : Nat) (l : List UInt8) (s : ByteArray) (q : List UInt8) (hs : s.data.toList = q) (w : World) (h : Bld w B b l) (hl : l.length + q.length ≤ 1000000000) (hB : B ≤ w.heap.size) :
    Calls Tryz.prog 26 #[.pointer (some ⟨b, 0, none⟩), .string s] w fun e w' => (∃ v, e = .returned v) ∧ Bld w' B b (l ++ q) ∧ Below B w w' := by
  have e : s.size = q.length := by rw [← hs]; exact (Array.length_toList (xs := s.data)).symm
  refine (ws B b l s w h (by omega) hB).mono fun e w' ⟨h1, h2, h3, _⟩ => ⟨⟨_, h1⟩, ?_, h3⟩
  rw [← hs]; exact h2
theorem endW_many {l : List (List UInt8)} (h : 2 ≤ l.length) : endW l = 32 :: 40 :: (joinL [44, 32] l ++ [41]) := by
  match l, h with
  | x :: y :: r, _ => rfl
def WhatC (m : Nat) : Prop := ∀ (X : Nat → Prop) (n : ByteArray) (va vt : Value) (ag : List ArgT) (ts : List TestT) (w : World), ArgsAt w X va ag → TestsAt w X vt ts → (∀ a ∈ ag, argRng a) → rTs ts → n.size + nTs ts ≤ 100000000 → wAs ag + mTs ts ≤ 1000000 → mTs ts < m → TabN w →
  Calls Tryz.prog 27 #[.string n, va, vt] w (StRet (whatW n ag (testsW ts)) w)
/-- what stands written when i arguments are done -/
def ArgsTo (ag : List ArgT) (i : Nat) (acc Y : List UInt8) : Prop := acc ++ (ag.drop i).flatMap argW = Y
theorem argsTo_step {ag : List ArgT} {i : Nat} {acc Y : List UInt8} (h : ArgsTo ag i acc Y) (hi : i < ag.length) : ArgsTo ag (i + 1) (acc ++ argW ag[i]) Y := by
  unfold ArgsTo at *
  rw [List.drop_eq_getElem_cons hi, List.flatMap_cons, ← List.append_assoc] at h
  exact h
theorem argsTo_end {ag : List ArgT} {i : Nat} {acc Y : List UInt8} (h : ArgsTo ag i acc Y) (hi : ¬ i < ag.length) : acc = Y := by
  unfold ArgsTo at h
  rw [List.drop_eq_nil_of_le (by omega)] at h
  simpa using h
theorem argsTo_len {ag : List ArgT} {i : Nat} {acc Y : List UInt8} (h : ArgsTo ag i acc Y) : acc.length ≤ Y.length := by
  unfold ArgsTo at h
  rw [← h, List.length_append]; omega
set_option maxHeartbeats 8000000 in
set_option maxRecDepth 100000 in
theorem what_any : ∀ m, WhatC m
  | 0 => fun X n va vt ag ts w hA hT hra hrt hn hw hm ht => absurd hm (Nat.not_lt_zero _)
  | m + 1 => fun X n va vt ag ts w hA hT hra hrt hn hw hm ht => by
    have ih := what_any m
    obtain ⟨R, hR, rl, re⟩ := hA
    obtain ⟨S, hS, sl, se⟩ := hT.out
    have hal := wAs_len ag
    have htl := mTs_len ts
    obtain ⟨pa, ca, rfl, hca, hRA⟩ := rdCell hR
    obtain ⟨pb, cb, rfl, hcb, hSA⟩ := rdCell hS
    have hX : ∀ g, X g → g < w.heap.size → g < w.heap.size := fun _ _ h => h
    have hb0 := (Below.refl w.heap.size w).alloc (Nat.le_refl _) (.cells #[.pointer none, .slice none 0 0] 70)
    have hB0 := Bld.new w
    have hal2 := argsW_len ag hra
    have hws := ws w.heap.size w.heap.size [] n _ hB0 (by simp; omega) (by simp)
    rw [List.nil_append] at hws
    have hAt0 : ArgsTo ag 0 n.data.toList (n.data.toList ++ ag.flatMap argW) := rfl
    have hYl : (n.data.toList ++ ag.flatMap argW).length ≤ 200000000 := by
      have e : n.data.toList.length = n.size := Array.length_toList
      rw [List.length_append]; omega
    have hgoal : whatW n ag (testsW ts) = (n.data.toList ++ ag.flatMap argW) ++ endW (testsW ts) := rfl
    rw [hgoal]
    generalize n.data.toList ++ ag.flatMap argW = Y at *
    -- one argument
    have hArg : ∀ i (h : i < ag.length) (h2 : i < R.length), ∃ rk rt rn rp rm rc rs, R[i] = ⟨rk, rt, rn, ⟨rp, rm, rc⟩, rs⟩ ∧ (argW ag[i]).length ≤ 30000000 ∧ ∀ W, Below w.heap.size w W → Calls Tryz.prog 59 #[.agg #[.int .i64 rk, .string rt, .int .i64 rn, .slice rp rm rc, .bool rs]] W (StRet (argW ag[i]) W) := by
      intro i h h2
      obtain ⟨e1, e2, e3, e4, e5⟩ := re i h2 h
      have hmem := List.getElem_mem h
      have hwa := wAs_mem hmem
      generalize R[i] = r at *
      obtain ⟨rk, rt, rn, ⟨rp, rm, rc⟩, rs⟩ := r
      refine ⟨rk, rt, rn, rp, rm, rc, rs, rfl, by have := argW_len ag[i] (hra _ hmem); omega, fun W hW => ?_⟩
      have e1 : rk = ag[i].k := e1
      have e2 : rt = ag[i].tag := e2
      have e3 : rn = ag[i].n := e3
      have e4 : rs = ag[i].list := e4
      rw [e1, e2, e3, e4]
      exact argument_any X rp rm rc ag[i] W (e5.keeps (fun g _ hg => hW.block g hg) hW.size fun _ h => h) (hra _ hmem) (by omega) (ht.later hW)
    -- one test
    have hTest : ∀ i (h : i < ts.length) (h2 : i < S.length), ∃ rn ap an ac kp kn kc ra, S[i] = ⟨rn, ⟨ap, an, ac⟩, ⟨kp, kn, kc⟩, ra⟩ ∧ ∀ W, Below w.heap.size w W → Calls Tryz.prog 27 #[.string rn, .slice ap an ac, .slice kp kn kc] W (StRet (testW ts[i]) W) := by
      intro i h h2
      obtain ⟨e1, e2, e3, e4⟩ := se i h2 h
      have h5 := nTs_at i h
      have h6 := mTs_at i h
      have h7 := (rT_parts _).1 (rTs_at i h hrt)
      rw [nT_parts] at h5
      rw [mT_parts] at h6
      rw [testW_what]
      generalize S[i] = r at *
      obtain ⟨rn, ⟨ap, an, ac⟩, ⟨kp, kn, kc⟩, ra⟩ := r
      refine ⟨rn, ap, an, ac, kp, kn, kc, ra, rfl, fun W hW => ?_⟩
      have e1 : rn = tName ts[i] := e1
      rw [e1]
      exact ih X (tName ts[i]) _ _ (tArgs ts[i]) (tKids ts[i]) W (e3.keeps (fun g _ hg => hW.block g hg) hW.size fun _ h => h) (e4.keeps (fun g _ hg => hW.block g hg) hW.size fun _ h => h) h7.1 h7.2 (by omega) (by omega) (by omega) (ht.later hW)
    have hTW := testsW_len ts hrt
    have hEl := endW_len (testsW ts)
    have HWS := Lib.hid hws
    have HAr := Lib.hid hArg
    have HTe := Lib.hid hTest
    have HRA := Lib.hid hRA
    have HSA := Lib.hid hSA
    have HB0 := Lib.hid hb0
    rw [rl] at hca ⊢
    rw [sl] at hcb ⊢
    have RL := Lib.hid rl
    have SL := Lib.hid sl
    clear hws hArg hTest hRA hSA hB0 hS hR hX re se hra hrt ht hT ih hgoal rl sl hb0
    go_enter Tryz.func27, Tryz.ntmps27
    go_wp2_with fail
    refine HWS.out.mono ?_
    rintro e w1 ⟨rfl, hB1, hb1, -⟩
    have hbel1 : Below w.heap.size w w1 := HB0.out.trans hb1
    go_wp2_with fail
    go_loopg [17] ag.length (fun g iv wr => ∃ (i : Nat) (acc : List UInt8), i + g = ag.length ∧ iv = .int .i64 i ∧ Bld wr w.heap.size w.heap.size acc ∧ Below w.heap.size w wr ∧ Hid (ArgsTo ag i acc Y))
    case atStart => exact ⟨0, _, by omega, by first | rfl | trivial, hB1, hbel1, hAt0⟩
    case round =>
      obtain ⟨i, acc, hig, rfl, hB, hbel, hrel⟩ := hrel
      clear hB1 hbel1 hb1
      have hz := hbel.size
      by_cases hlt : i < ag.length
      · have iR : i < R.length := by have := RL.out; omega
        rcases HRA.out with h0 | ⟨ga, oa, rfl, hca2⟩
        · rw [h0, List.length_nil] at iR; omega
        · obtain ⟨rk, rt, rn, rp, rm, rc, rs, hRi, hAl, hcall⟩ := HAr.out i hlt iR
          have hst := argsTo_step hrel.out hlt
          have hac := argsTo_len hrel.out
          have a1 : ∀ j u, (argL.enc R[i])[j]? = some u → wr.cell? ⟨ga, oa + i * 5 + j, none⟩ = some u := fun j u hu => cell_later hbel (hca2 i iR j u hu)
          rw [hRi] at a1
          have c0 : wr.cell? ⟨ga, oa + i * 5, none⟩ = some (.int .i64 rk) := a1 0 _ rfl
          have c1 : wr.cell? ⟨ga, oa + i * 5 + 1, none⟩ = some (.string rt) := a1 1 _ rfl
          have c2 : wr.cell? ⟨ga, oa + i * 5 + 2, none⟩ = some (.int .i64 rn) := a1 2 _ rfl
          have c3 : wr.cell? ⟨ga, oa + i * 5 + 3, none⟩ = some (.slice rp rm rc) := a1 3 _ rfl
          have c4 : wr.cell? ⟨ga, oa + i * 5 + 4, none⟩ = some (.bool rs) := a1 4 _ rfl
          obtain ⟨A, hA, hAd, hAs⟩ := arr2 (argW ag[i])
          unfold StRet at hcall
          rw [← hA] at hcall
          rw [← hAd] at hst
          have hA3 : A.size ≤ 30000000 := by omega
          have hbW := hbel.alloc hz (.cells #[.int .i64 rk, .string rt, .int .i64 rn, .slice rp rm rc, .bool rs] 50)
          have HC := Lib.hid (hcall _ hbW)
          have HST := Lib.hid hst
          have hBW := hB.alloc (.cells #[.int .i64 rk, .string rt, .int .i64 rn, .slice rp rm rc, .bool rs] 50)
          clear a1 hca2 hcall hA hAd hAs hRi hrel hst hAl
          go_wp2_with fail
          refine HC.out.mono ?_
          rintro e w2 ⟨rfl, hb2⟩
          have hbel2 := hbW.trans (hb2.mono hbW.size)
          go_wp2_with fail
          refine (ws w.heap.size w.heap.size acc A w2 (hBW.below hb2 (Nat.le_refl _)) (by omega) hbel2.size).mono ?_
          rintro e w3 ⟨rfl, hB3, hb3, -⟩
          have hbel3 := hbel2.trans hb3
          go_wp2_with fail
          go_roundg (ag.length - (i + 1))
          case rel => exact ⟨i + 1, _, by omega, by go_num, hB3, hbel3, HST.out⟩
          case measure => omega
      · obtain rfl := argsTo_end hrel.out hlt
        clear hrel HRA HAr hAt0
        go_wp2_with fail
        generalize wr = wz at *
        go_loopg [10, 27] ts.length (fun g lv iv wy => ∃ (i : Nat) (L : List ByteArray), i + g = ts.length ∧ iv = .int .i64 i ∧ Below wz.heap.size wz wy ∧ ownsG strL wy wz.heap.size 9 lv L ∧ L.length ≤ i ∧ Hid (TsTo ts i L))
        case atStart => exact ⟨0, [], by omega, by first | rfl | trivial, Below.refl _ _, ownsG.nil _ _ _ _, by simp, rfl⟩
        case round =>
          obtain ⟨k, L, hkg, rfl, hby, hown, hLl, hrel⟩ := hrel
          have hzy := hby.size
          have hbw := hbel.trans (hby.mono hz)
          by_cases hlk : k < ts.length
          · have iS : k < S.length := by have := SL.out; omega
            rcases HSA.out with h0 | ⟨gb, ob, rfl, hcb2⟩
            · rw [h0, List.length_nil] at iS; omega
            · obtain ⟨rn, ap, an, ac, kp, kn, kc, ra, hSi, hcall⟩ := HTe.out k hlk iS
              have hst := tsTo_step hrel.out hlk
              have a1 : ∀ j u, (testL.enc S[k])[j]? = some u → wr.cell? ⟨gb, ob + k * 4 + j, none⟩ = some u := fun j u hu => cell_later hbw (hcb2 k iS j u hu)
              rw [hSi] at a1
              have c0 : wr.cell? ⟨gb, ob + k * 4, none⟩ = some (.string rn) := a1 0 _ rfl
              have c1 : wr.cell? ⟨gb, ob + k * 4 + 1, none⟩ = some (.slice ap an ac) := a1 1 _ rfl
              have c2 : wr.cell? ⟨gb, ob + k * 4 + 2, none⟩ = some (.slice kp kn kc) := a1 2 _ rfl
              have c3 : wr.cell? ⟨gb, ob + k * 4 + 3, none⟩ = some (.int .i64 ra) := a1 3 _ rfl
              have hbW := hbw.alloc (Nat.le_trans hz hzy) (.cells #[.string rn, .slice ap an ac, .slice kp kn kc, .int .i64 ra] 48)
              have hbY := hby.alloc hzy (.cells #[.string rn, .slice ap an ac, .slice kp kn kc, .int .i64 ra] 48)
              unfold StRet at hcall
              have HC := Lib.hid (hcall _ hbW)
              have HST := Lib.hid hst
              have hoW := hown.alloc (.cells #[.string rn, .slice ap an ac, .slice kp kn kc, .int .i64 ra] 48)
              generalize toB (testW ts[k]) = Q at *
              clear a1 hcb2 hcall hSi hrel hst
              go_wp2_with fail
              refine HC.out.mono ?_
              rintro e w2 ⟨rfl, hb2⟩
              have hbY2 := hbY.trans (hb2.mono hbY.size)
              have ho2 : ownsG strL w2 wz.heap.size 9 u10 L := hoW.below hb2 (Nat.le_refl _)
              go_wp2_with (at_builtin; go_loud (refine append_g _ rfl (.tmp 31) (.tmp 39) slS rfl wz.heap.size _ L rfl (ownsG.alloc ho2 _) ⟨_, 0, none⟩ [Q] 1 1 rfl rfl (cells_at _ _ (by simp) _ _) (by omega) (by omega) (by simp; have := hbY2.size; omega) ?_; intro v6 w6 hown6 hg6; have hb6 := Below_grownG (hbY2.alloc hbY2.size (.cells #[.string Q] 9)) (ownsG.alloc ho2 _) hg6 (by simp; have := hbY2.size; omega)))
              go_roundg (ts.length - (k + 1))
              case rel => exact ⟨k + 1, _, by omega, by go_num, hb6, hown6, by rw [List.length_append, List.length_singleton]; omega, HST.out⟩
              case measure => omega
          · have hend := tsTo_end hrel.out hlk
            have hBy := hB.below hby (Nat.le_refl _)
            have hform := strs_form hown
            have hsz := hbw.size
            have hjl := sum_le_joinL (testsW ts)
            have hBF : ∀ (q : List UInt8) W, Bld W w.heap.size w.heap.size (acc ++ q) → Below w.heap.size w W → q = endW (testsW ts) → Calls Tryz.prog 28 #[.pointer (some ⟨w.heap.size, 0, none⟩)] W fun e w' => e = .returned (.string (toB (acc ++ endW (testsW ts)))) ∧ Below w.heap.size w w' := fun q W hBd hW he => by
              refine (bstr w.heap.size w.heap.size (acc ++ q) W hBd hW.size).mono ?_
              rintro e w' ⟨h1, -, h3, -⟩
              exact ⟨by rw [h1, ← he]; rfl, hW.trans h3⟩
            have HBF := Lib.hid hBF
            have hJ := fun W (hW : Below wr.heap.size wr W) => joinO _ u10 L W (hown.below hW (Nat.le_refl _)) (by omega) (by rw [hend]; omega)
            rw [hend] at hJ
            have hLen : L.length = (testsW ts).length := by rw [← hend, List.length_map]
            clear hBF hB hown hrel
            have ei : ∀ q : List UInt8, q = endW (testsW ts) → q.length ≤ 400000000 := fun q h => by rw [h]; omega
            by_cases h0 : L.length = 0
            · have hnil : endW (testsW ts) = [] := by
                have : testsW ts = [] := List.eq_nil_of_length_eq_zero (by omega)
                rw [this]; rfl
              have hu : ∃ pz cz, u10 = .slice pz 0 cz := by
                rcases hform with ⟨h1, -⟩ | ⟨g, c, h1, -⟩
                · exact ⟨_, _, h1⟩
                · exact ⟨_, _, by rw [h1, h0]⟩
              obtain ⟨pz, cz, rfl⟩ := hu
              have HF := Lib.hid (HBF.out [] wr (by rw [List.append_nil]; exact hBy) hbw hnil.symm)
              generalize acc ++ endW (testsW ts) = Z at *
              clear hend hjl hLen hnil h0 ei hJ HBF hform
              go_wp2_with fail
              refine HF.out.mono ?_
              rintro e w2 ⟨rfl, hb2⟩
              go_wp2
              go_ret
              exact ⟨rfl, hb2⟩
            · by_cases h1 : L.length = 1
              · obtain ⟨Q, rfl⟩ := List.length_eq_one_iff.1 h1
                have hE : endW (testsW ts) = 32 :: Q.data.toList := by rw [← hend]; rfl
                rcases hform with ⟨-, h2⟩ | ⟨g, c, rfl, hc, hg, -, h4⟩
                · cases h2
                · have k0 : wr.cell? ⟨g, 0, none⟩ = some (.string Q) := h4 0 Q rfl
                  have hql := ei (32 :: Q.data.toList) hE.symm
                  have hqs : Q.size ≤ 400000000 := by
                    have : Q.data.toList.length = Q.size := Array.length_toList
                    rw [List.length_cons] at hql; omega
                  have HW := Lib.hid (fun s hs => ws_to w.heap.size w.heap.size acc s (32 :: Q.data.toList) hs wr hBy (by omega) hbw.size)
                  have hs : (⟨#[32]⟩ ++ Q : ByteArray).data.toList = 32 :: Q.data.toList := by rw [bcat, toB_data]; rfl
                  have HF := Lib.hid (fun w2 hB2 hb2 => HBF.out (32 :: Q.data.toList) w2 hB2 hb2 hE.symm)
                  have HS := Lib.hid hs
                  generalize acc ++ endW (testsW ts) = Z at *
                  clear hend hjl hLen h0 h1 ei hJ HBF hE hs h4 hql
                  simp only [List.length_cons, List.length_nil, Nat.zero_add] at *
                  go_wp2_with fail
                  refine (HW.out _ HS.out).mono ?_
                  rintro e w2 ⟨⟨v2, rfl⟩, hB2, hb2⟩
                  go_wp2_with fail
                  refine (HF.out w2 hB2 (hbw.trans hb2)).mono ?_
                  rintro e w3 ⟨rfl, hb3⟩
                  go_wp2
                  go_ret
                  exact ⟨rfl, hb3⟩
              · have hE := endW_many (l := testsW ts) (by omega)
                rcases hform with ⟨-, h2⟩ | ⟨g, c, rfl, hc, hg, -, -⟩
                · rw [h2] at h0; exact absurd rfl h0
                · obtain ⟨J, hJe, hJd, hJs⟩ := arr2 (joinL [44, 32] (testsW ts))
                  unfold StRet at hJ
                  rw [← hJe] at hJ
                  have hJz : J.size ≤ 400000000 := by omega
                  have q0 : ((L.length : Int) == 0) = false := beq_eq_false_iff_ne.2 (by omega)
                  have q1 : ((L.length : Int) == 1) = false := beq_eq_false_iff_ne.2 (by omega)
                  have hql := ei _ rfl
                  have HJ := Lib.hid (hJ wr (Below.refl _ _))
                  have HW := Lib.hid (fun s hs w2 (hb2 : Below wr.heap.size wr w2) => ws_to w.heap.size w.heap.size acc s (endW (testsW ts)) hs w2 (hBy.below hb2 (Nat.le_refl _)) (by omega) (Nat.le_trans hbw.size hb2.size))
                  have hs : (⟨#[32, 40]⟩ ++ J ++ ⟨#[41]⟩ : ByteArray).data.toList = endW (testsW ts) := by rw [hE, bcat, bcat, toB_data, toB_data, hJd]; rfl
                  have HF := Lib.hid (fun w2 hB2 hb2 => HBF.out _ w2 hB2 hb2 rfl)
                  have HS := Lib.hid hs
                  generalize acc ++ endW (testsW ts) = Z at *
                  clear hend hjl hLen h0 h1 ei hJ HBF hE hs hql hJe hJd hJs
                  generalize L.length = N at *
                  go_wp2_with fail
                  refine HJ.out.mono ?_
                  rintro e w2 ⟨rfl, hb2⟩
                  go_wp2_with fail
                  refine (HW.out _ HS.out w2 hb2).mono ?_
                  rintro e w3 ⟨⟨v2, rfl⟩, hB2, hb3⟩
                  go_wp2_with fail
                  refine (HF.out w3 hB2 ((hbw.trans (hb2.mono hbw.size)).trans hb3)).mono ?_
                  rintro e w4 ⟨rfl, hb4⟩
                  go_wp2
                  go_ret
                  exact ⟨rfl, hb4⟩
end Go.Proofs.YtgimgkjggaijoaaGreatDoor
