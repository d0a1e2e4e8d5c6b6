/- Walks: the law of white space and comments between the tokens of a script. -/
import Derived.Test.YtgimgkjggaijoaaGreatDoorLawSv
import Derived.Test.YtgimgkjggaijoaaGreatDoorSvWd
import Derived.Laws.Bits64b
namespace Sv
open Go Lx C1

theorem looseL_ge (g : List UInt8) : ∀ (ts : List (Tok × Nat)) (s : List UInt8), s.length ≤ (looseL g s ts).length
  | [], _ => Nat.le_refl _
  | x :: r, s => by
    have := looseL_ge g r (s ++ wordT x.1 ++ g)
    rw [List.length_append, List.length_append] at this
    show s.length ≤ (looseL g (s ++ wordT x.1 ++ g) r).length
    omega
theorem looseL_le (g : List UInt8) (hg : g.length ≤ 10) : ∀ (ts : List (Tok × Nat)) (s : List UInt8), (∀ x ∈ ts, TokW x.1) → (looseL g s ts).length ≤ s.length + 16 * wLx (ts.map lexOf)
  | [], _, _ => Nat.le_add_right _ _
  | x :: r, s, h => by
    have h1 := looseL_le g hg r (s ++ wordT x.1 ++ g) fun y hy => h y (by simp [hy])
    have h2 := Go.Proofs.YtgimgkjggaijoaaGreatDoor.wordT_len (h x (by simp))
    rw [wLx_lexOf]
    rw [List.length_append, List.length_append] at h1
    show (looseL g (s ++ wordT x.1 ++ g) r).length ≤ _
    omega
/-- how far the loose text and the places are made -/
def LsTo (g : List UInt8) (ts : List (Tok × Nat)) (i : Nat) (S : ByteArray) (A : List Int) : Prop :=
  looseL g S.data.toList (ts.drop i) = looseL g g ts ∧ A ++ (looseA g S.data.toList (ts.drop i)).map (fun x => ((x.2 : Nat) : Int)) = (looseA g g ts).map fun x => ((x.2 : Nat) : Int)
theorem lsTo_step {g : List UInt8} {ts : List (Tok × Nat)} {i : Nat} {S S' : ByteArray} {A : List Int} (h : LsTo g ts i S A) (hi : i < ts.length) (hS : S'.data.toList = S.data.toList ++ wordT ts[i].1 ++ g) : LsTo g ts (i + 1) S' (A ++ [(S.size : Int)]) := by
  obtain ⟨h1, h2⟩ := h
  rw [List.drop_eq_getElem_cons hi] at h1 h2
  have e : S.data.toList.length = S.size := Array.length_toList
  refine ⟨by rw [hS]; exact h1, ?_⟩
  rw [hS, List.append_assoc]
  have h3 : (looseA g S.data.toList (ts[i] :: ts.drop (i + 1))).map (fun x => ((x.2 : Nat) : Int)) = ((S.data.toList.length : Nat) : Int) :: (looseA g (S.data.toList ++ wordT ts[i].1 ++ g) (ts.drop (i + 1))).map (fun x => ((x.2 : Nat) : Int)) := rfl
  rw [h3, e] at h2
  exact h2
theorem lsTo_end {g : List UInt8} {ts : List (Tok × Nat)} {i : Nat} {S : ByteArray} {A : List Int} (h : LsTo g ts i S A) (hi : ¬ i < ts.length) : S.data.toList = looseL g g ts ∧ A = (looseA g g ts).map fun x => ((x.2 : Nat) : Int) := by
  obtain ⟨h1, h2⟩ := h
  rw [List.drop_eq_nil_of_le (by omega)] at h1 h2
  exact ⟨h1, by rw [← h2]; show A = A ++ []; simp⟩
theorem lsTo_len {g : List UInt8} {ts : List (Tok × Nat)} {i : Nat} {S : ByteArray} {A : List Int} (h : LsTo g ts i S A) : S.size ≤ (looseL g g ts).length := by
  have e : S.data.toList.length = S.size := Array.length_toList
  rw [← h.1, ← e]
  exact looseL_ge _ _ _
theorem wLx_mem : ∀ (ts : List (Tok × Nat)) (i : Nat) (h : i < ts.length), 2 + ts[i].1.t.length ≤ wLx (ts.map lexOf)
  | x :: r, 0, h => by rw [wLx_lexOf]; show 2 + x.1.t.length ≤ _; omega
  | x :: r, i + 1, h => by have := wLx_mem r i (by simpa using h); rw [wLx_lexOf]; show 2 + (r[i]'(by simpa using h)).1.t.length ≤ _; omega
theorem run_lt {l : List UInt8} {k : Nat} {ts : List (Tok × Nat)} {e : Option Nat} (h : Run l k ts e) : ∀ (d i : Nat) (hi : i + d + 1 < ts.length), ts[i].2 < ts[i + d + 1].2
  | 0, i, hi => h.mono i hi
  | d + 1, i, hi => Nat.lt_trans (run_lt h d i (by omega)) (h.mono (i + d + 1) hi)
theorem run_inj {l : List UInt8} {k : Nat} {ts : List (Tok × Nat)} {e : Option Nat} (h : Run l k ts e) (i j : Nat) (hi : i < ts.length) (hj : j < ts.length) (he : ts[i].2 = ts[j].2) : i = j := by
  rcases Nat.lt_trichotomy i j with h1 | h1 | h1
  · obtain ⟨d, rfl⟩ : ∃ d, j = i + d + 1 := ⟨j - i - 1, by omega⟩
    have := run_lt h d i hj
    omega
  · exact h1
  · obtain ⟨d, rfl⟩ : ∃ d, i = j + d + 1 := ⟨i - j - 1, by omega⟩
    have := run_lt h d j hi
    omega
mutual
theorem TR_weak {P Q : Int → Int → Prop} (h : ∀ x y, P x y → Q x y) : ∀ {t t' : TestT}, TR P t t' → TR Q t t'
  | _, _, .mk hk ha => .mk (TL_weak h hk) (h _ _ ha)
theorem TL_weak {P Q : Int → Int → Prop} (h : ∀ x y, P x y → Q x y) : ∀ {l l' : List TestT}, TL P l l' → TL Q l l'
  | _, _, .nil => .nil
  | _, _, .cons ht hl => .cons (TR_weak h ht) (TL_weak h hl)
end
mutual
theorem CR_weak {P Q : Int → Int → Prop} (h : ∀ x y, P x y → Q x y) : ∀ {t t' : CmdT}, CR P t t' → CR Q t t'
  | _, _, .mk ht hb ha => .mk (TL_weak h ht) (CL_weak h hb) (h _ _ ha)
theorem CL_weak {P Q : Int → Int → Prop} (h : ∀ x y, P x y → Q x y) : ∀ {l l' : List CmdT}, CL P l l' → CL Q l l'
  | _, _, .nil => .nil
  | _, _, .cons ht hl => .cons (CR_weak h ht) (CL_weak h hl)
end
/-- what Parse makes of both -/
theorem blanks_plain {s S : ByteArray} {g : List UInt8} {ts : List (Tok × Nat)} (hg : GapOk g) (hrun : Run s.data.toList 0 ts none) (hS : S.data.toList = looseL g g ts) (r : Except (Int × Int) (List CmdT)) (hr : PRes s r) :
    ∃ r', PRes S r' ∧ PRel (Moved (ts.map (·.2)) ((looseA g g ts).map (·.2)) s.size S.size) r r' := by
  have hl := loose_all hg ts g [] (run_tokW hrun) (loose_gap hg)
  rw [List.nil_append] at hl
  have hrunS := loose_run hl
  rw [← hS] at hrunS
  rcases hr with ⟨ts', k, h1, -⟩ | ⟨ts', m, h1, h2⟩
  · have := (h1.det hrun).2
    cases this
  · obtain ⟨rfl, -⟩ := h1.det hrun
    obtain ⟨r', h3, h4⟩ := parse_al (P := Moved (ts'.map (·.2)) ((looseA g g ts').map (·.2)) s.size S.size) (E := ((s.size : Nat) : Int)) (E' := ((S.size : Nat) : Int)) (.inr ⟨rfl, rfl⟩) m r (al_moved s.size S.size ts' (looseA g g ts') (looseA_tok g ts' g).symm) h2
    exact ⟨r', .inr ⟨_, m, hrunS, h3⟩, h4⟩
end Sv
namespace Go.Proofs.YtgimgkjggaijoaaGreatDoor
open Go.RowKit Pk Lx Sv

theorem and3 (m : Int) : ∃ j : Nat, j < 4 ∧ bits .and .i64 m 3 = (j : Int) := by
  refine ⟨(BitVec.ofInt 64 m).toNat % 4, Nat.mod_lt _ (by decide), ?_⟩
  have h1 : (BitVec.ofInt 64 3).toNat = 3 := by decide
  have h2 : ∀ x : Nat, x &&& 3 = x % 4 := fun x => Nat.and_two_pow_sub_one_eq_mod x 2
  show IntKind.i64.wrap ((BitVec.ofInt 64 m &&& BitVec.ofInt 64 3).toNat : Int) = _
  rw [BitVec.toNat_and, h1, h2]
  exact w64 rfl (by omega) (by omega)
def intL : Lay Int where
  enc := fun x => [.int .i64 x]
  k := 1
  hk := fun _ => rfl
  h0 := by decide
  one := fun x u hu => by
    simp only [List.mem_cons, List.not_mem_nil, or_false] at hu
    subst hu; rfl
theorem slI : GSl intL 8 Tryz.prog 38 3 := GSl.of Tryz.underlying38 (by kernel_rfl)
/-- what stands behind the choice of the gap -/
def BlPost (w : World) (e : Ending) (w' : World) : Prop := e = .returned (.bool true) ∧ Below w.heap.size w w'
theorem ints_at {w : World} {B : Nat} {v : Value} {l : List Int} (h : ownsG intL w B 3 v l) : (v = .slice none 0 0 ∧ l = []) ∨ ∃ g c, v = .slice (some ⟨g, 0, none⟩) l.length c ∧ l.length ≤ c ∧ g < w.heap.size ∧ ∀ (j : Nat) x, l[j]? = some x → w.cell? ⟨g, j, none⟩ = some (.int .i64 x) := by
  rcases h.2 with ⟨h1, h2⟩ | ⟨g, cap, cur, h1, h2, h3, h4, h5, h6, h7⟩
  · exact .inl ⟨h1, List.eq_nil_of_length_eq_zero h2⟩
  · refine .inr ⟨g, cap, h1, h4, lt_of_block h3, fun j x hx => ?_⟩
    have hj := (List.getElem?_eq_some_iff.1 hx).1
    have := World.ownsRow.cells h (g := g) (by rw [h1]; rfl) (j * intL.k + 0) (.int .i64 x) (encG_at intL l j hj 0 _ (by rw [(List.getElem?_eq_some_iff.1 hx).2]; rfl))
    rw [Addr.add_lit, Nat.zero_add] at this
    simpa [intL] using this
theorem ints_form {w : World} {B : Nat} {v : Value} {l : List Int} (h : ownsG intL w B 3 v l) : ∃ pa ca, v = .slice pa l.length ca ∧ l.length ≤ ca ∧ (l = [] ∨ ∃ g, pa = some ⟨g, 0, none⟩ ∧ g < w.heap.size ∧ ∀ (j : Nat) x, l[j]? = some x → w.cell? ⟨g, j, none⟩ = some (.int .i64 x)) := by
  rcases ints_at h with ⟨rfl, rfl⟩ | ⟨g, c, rfl, h2, h3, h4⟩
  · exact ⟨none, 0, rfl, Nat.le_refl _, .inl rfl⟩
  · exact ⟨_, c, rfl, h2, .inr ⟨g, rfl, h3, h4⟩⟩
/-- no token so far stands at the place -/
def NoAt (ts : List (Tok × Nat)) (a : Int) (i : Nat) : Prop := ∀ j (h : j < ts.length), j < i → ((ts[j].2 : Nat) : Int) ≠ a
set_option maxHeartbeats 8000000 in
set_option maxRecDepth 100000 in
theorem blanks_any (s : ByteArray) (m : Int) (w : World) (hw : LW w) (ht : TabN w) : Calls Tryz.prog 7 #[.string s, .int .i64 m] w (BlRet true w) := by
  have HSm := Lib.hid (small_any w hw ht)
  have HW := Lib.hid (fun w1 (hb : Below w.heap.size w w1) => hw.later hb)
  have HT := Lib.hid (fun w1 (hb : Below w.heap.size w w1) => ht.later hb)
  clear hw ht
  by_cases hs : 2000 < s.size
  · have k1 : decide ((2000 : Int) < (s.size : Int)) = true := decide_eq_true (by omega)
    clear hs
    have tb : Below w.heap.size w w := Below.refl _ _
    go_enter Tryz.func7, Tryz.ntmps7
    go_wp2_with fail
    refine HSm.out.mono ?_
    rintro e w1 ⟨rfl, hb1⟩
    replace tb := tb.trans (hb1.mono tb.size)
    go_wp2
    go_ret
    exact ⟨rfl, tb⟩
  · have k1 : decide ((2000 : Int) < (s.size : Int)) = false := decide_eq_false (by omega)
    obtain ⟨ts, eo, hrun⟩ := run_total s.data.toList.length s.data.toList 0 (Nat.le_refl _)
    obtain ⟨j, hj, hjm⟩ := and3 m
    have hcase : j = 0 ∨ j = 1 ∨ j = 2 ∨ j = 3 := by omega
    clear hj
    cases eo with
    | some k =>
      have HSc := Lib.hid (fun w1 (hb : Below w.heap.size w w1) => scan_bad s ts k hrun w1 (HW.out w1 hb) (by omega))
      clear hrun hs
      rcases hcase with rfl | rfl | rfl | rfl
      all_goals
        have tb : Below w.heap.size w w := Below.refl _ _
        go_enter Tryz.func7, Tryz.ntmps7
        go_wp2_with fail
        refine HSm.out.mono ?_
        rintro e w1 ⟨rfl, hb1⟩
        replace tb := tb.trans (hb1.mono tb.size)
        go_wp2_with fail
        refine (HSc.out _ (tb.alloc tb.size _)).mono ?_
        rintro e w2 ⟨rfl, hb2⟩
        have tb2 := (tb.alloc tb.size (.cells #[.string ⟨#[32]⟩, .string ⟨#[13, 10, 9]⟩, .string ⟨#[32, 35, 32, 110, 111, 59, 32, 123, 10]⟩, .string ⟨#[47, 42, 32, 120, 59, 32, 42, 47]⟩] 9))
        go_wp2
        go_ret
        exact ⟨rfl, tb2.trans (hb2.mono tb2.size)⟩
    | none =>
      rcases hcase with rfl | rfl | rfl | rfl
      ·
        -- G the gap's text, g its bytes
        obtain ⟨r1, hr1⟩ := pres_any s
        have hTW := run_tokW hrun
        have hcnt := hrun.count
        have hdl : s.data.toList.length = s.size := Array.length_toList
        have hrw := run_w hrun
        have hLB := looseL_le ([32] : List UInt8) (by decide) ts ([32] : List UInt8) hTW
        have hLB2 : (looseL ([32] : List UInt8) ([32] : List UInt8) ts).length ≤ 100000 := by (have e : (([32] : List UInt8) : List UInt8).length ≤ 10 := by decide); omega
        have HSc := Lib.hid (fun w1 (hb : Below w.heap.size w w1) => scan_ok s ts hrun w1 (HW.out w1 hb) (by omega))
        have HP1 := Lib.hid (fun w1 (hb : Below w.heap.size w w1) => script_any s r1 hr1 (by omega) w1 (HW.out w1 hb))
        have HWd := Lib.hid (fun i (hi : i < ts.length) w1 (hb : Below w.heap.size w w1) => wordB_any ts[i].1 (ts[i].2 : Nat) (hTW _ (List.getElem_mem hi)) (by have := wLx_mem ts i hi; omega) w1 (HT.out w1 hb))
        have hWl : ∀ i (hi : i < ts.length), (wordT ts[i].1).length ≤ 20000 := fun i hi => by have h1 := wordT_len (hTW _ (List.getElem_mem hi)); have h2 := wLx_mem ts i hi; omega
        have HRun := Lib.hid hrun
        have HR1 := Lib.hid hr1
        clear hcnt hrw hLB hr1 hTW hdl
        have tb : Below w.heap.size w w := Below.refl _ _
        go_enter Tryz.func7, Tryz.ntmps7
        go_wp2_with fail
        refine HSm.out.mono ?_
        rintro e w1 ⟨rfl, hb1⟩
        replace tb := tb.trans (hb1.mono tb.size)
        have hbA := (Below.refl w1.heap.size w1).alloc (Nat.le_refl _) (.cells #[.string ⟨#[32]⟩, .string ⟨#[13, 10, 9]⟩, .string ⟨#[32, 35, 32, 110, 111, 59, 32, 123, 10]⟩, .string ⟨#[47, 42, 32, 120, 59, 32, 42, 47]⟩] 9)
        replace tb := tb.trans (hbA.mono tb.size)
        go_wp2_with fail
        refine (HSc.out _ tb).mono ?_
        rintro e w2 ⟨p, c, rfl, hse, hb2⟩
        replace tb := tb.trans (hb2.mono tb.size)
        obtain ⟨p', c', he, hpc, hcells⟩ := hse.form
        rw [List.length_map] at he hpc
        injection he with e1 e2 e3
        subst e1 e3
        have HCl := Lib.hid hcells
        have hts : ts.length ≤ 2000 := by have := HRun.out.count; have h2 : s.data.toList.length = s.size := Array.length_toList; omega
        clear hse hcells e2 hbA hb2
        go_wp2_with fail
        go_loopw [11, 12, 13] (fun sv av iv wr => ∃ (i : Nat) (S : ByteArray) (A : List Int), iv = .int .i64 i ∧ sv = .string S ∧ i ≤ ts.length ∧ Below w2.heap.size w2 wr ∧ ownsG intL wr w2.heap.size 3 av A ∧ A.length ≤ i ∧ Hid (LsTo ([32] : List UInt8) ts i S A)) (fun _ _ iv _ => ts.length - (intOf iv).toNat)
        case atStart => exact ⟨0, (⟨#[32]⟩ : ByteArray), [], by first | rfl | trivial, rfl, by omega, Below.refl _ _, ownsG.nil _ _ _ _, by simp, ⟨rfl, rfl⟩⟩
        case round =>
          obtain ⟨i, S, A, rfl, rfl, hi, hbel, hown, hAl, hrel⟩ := hrel
          have hz := hbel.size
          have hSz : S.size ≤ 100000 := Nat.le_trans (lsTo_len hrel.out) hLB2
          by_cases hlt : i < ts.length
          · rcases HCl.out with h0 | ⟨gt, rfl, hgt, hcel⟩
            · have : ts = [] := List.map_eq_nil_iff.1 h0
              rw [this] at hlt; cases hlt
            · have a1 : ∀ j u, (lexLay.enc (lexOf ts[i]))[j]? = some u → wr.cell? ⟨gt, i * 4 + j, none⟩ = some u := fun j u hu => cell_later hbel (hcel i (by rw [List.length_map]; exact hlt) j u (by rw [List.getElem_map]; exact hu))
              have c0 : wr.cell? ⟨gt, i * 4, none⟩ = some (.int .i64 ((ts[i].1.k : Nat) : Int)) := a1 0 _ rfl
              have c1 : wr.cell? ⟨gt, i * 4 + 1, none⟩ = some (.string (toB ts[i].1.t)) := a1 1 _ rfl
              have c2 : wr.cell? ⟨gt, i * 4 + 2, none⟩ = some (.int .i64 ((ts[i].1.n : Nat) : Int)) := a1 2 _ rfl
              have c3 : wr.cell? ⟨gt, i * 4 + 3, none⟩ = some (.int .i64 ((ts[i].2 : Nat) : Int)) := a1 3 _ rfl
              have hcw := fun W (hb : Below w2.heap.size w2 W) => HWd.out i hlt W (tb.trans (hb.mono tb.size))
              have hwl := hWl i hlt
              obtain ⟨Q, hQ, hQd, hQs⟩ := arr2 (wordT ts[i].1)
              unfold StRet at hcw
              rw [← hQ] at hcw
              have hQ3 : Q.size ≤ 20000 := by omega
              have hsS : (S ++ Q ++ (⟨#[32]⟩ : ByteArray) : ByteArray).data.toList = S.data.toList ++ wordT ts[i].1 ++ ([32] : List UInt8) := by rw [ByteArray.data_append, ByteArray.data_append, Array.toList_append, Array.toList_append, hQd]
              have hst := Lib.hid (lsTo_step hrel.out hlt hsS)
              have HCw := Lib.hid hcw
              generalize ((ts[i].1.k : Nat) : Int) = xk at *
              generalize toB ts[i].1.t = xt at *
              generalize ((ts[i].1.n : Nat) : Int) = xn at *
              generalize ((ts[i].2 : Nat) : Int) = xa at *
              clear a1 hcel hcw hQ hQd hQs hsS hrel hwl
              have d0 := fun W (hb : Below wr.heap.size wr W) => cell_later hb c0
              have d1 := fun W (hb : Below wr.heap.size wr W) => cell_later hb c1
              have d2 := fun W (hb : Below wr.heap.size wr W) => cell_later hb c2
              have d3 := fun W (hb : Below wr.heap.size wr W) => cell_later hb c3
              have hgt2 : gt < w2.heap.size := hgt
              go_wp2_with (at_builtin; go_loud (refine append_g _ rfl (.tmp 48) (.tmp 51) slI rfl w2.heap.size _ A rfl (ownsG.alloc hown _) ⟨_, 0, none⟩ [(S.size : Int)] 1 1 rfl rfl (cells_at _ _ (by simp) _ _) (by omega) (by omega) (by simp; omega) ?_; intro v6 w6 hown6 hg6; have hb6 := Below_grownG (hbel.alloc hz (.cells #[.int .i64 S.size] 3)) (ownsG.alloc hown _) hg6 (by simp; omega); have f0 := (World.cell?_of_block (hb6.block gt hgt2)).trans ((World.cell?_of_block (hbel.block gt hgt2)).symm.trans c0); have f1 := (World.cell?_of_block (hb6.block gt hgt2)).trans ((World.cell?_of_block (hbel.block gt hgt2)).symm.trans c1); have f2 := (World.cell?_of_block (hb6.block gt hgt2)).trans ((World.cell?_of_block (hbel.block gt hgt2)).symm.trans c2); have f3 := (World.cell?_of_block (hb6.block gt hgt2)).trans ((World.cell?_of_block (hbel.block gt hgt2)).symm.trans c3); clear hg6))
              refine (HCw.out w6 hb6).mono ?_
              rintro e w7 ⟨rfl, hb7⟩
              go_wp2
              go_roundw
              case rel => exact ⟨i + 1, _, _, by go_num, rfl, by omega, hb6.trans (hb7.mono hb6.size), hown6.below hb7 (Nat.le_refl _), by rw [List.length_append, List.length_singleton]; omega, hst⟩
              case measure => simp [intOf]; omega
          · obtain ⟨hS, hA⟩ := lsTo_end hrel.out hlt
            obtain ⟨r2, hr2, hpr⟩ := blanks_plain gap0 HRun.out hS r1 HR1.out
            have HP2 := Lib.hid (script_any S r2 hr2 (by omega))
            obtain ⟨pa, ca, rfl, hca, hAc⟩ := ints_form hown
            have HAc := Lib.hid hAc
            have hAlen : A.length = ts.length := by rw [hA, List.length_map, looseA_len]
            have HAe := Lib.hid hA
            have HLe := Lib.hid hAlen
            have tbr := tb.trans (hbel.mono tb.size)
            have hie := hlt
            clear hrel hown hS hA hAc hAlen hr2 hlt hAl
            cases r1 with
            | error e1 =>
              obtain ⟨e1, a1⟩ := e1
              cases r2 with
              | ok cc => exact hpr.elim
              | error e2 =>
                obtain ⟨e2, a2⟩ := e2
                obtain ⟨hee, hmv⟩ := hpr
                simp only at hee hmv
                subst hee
                go_wp2_with fail
                refine (HP1.out wr tbr).mono ?_
                rintro e w3 ⟨hb3, hne, rfl⟩
                have tb3 := tbr.trans (hb3.mono tbr.size)
                go_wp2_with fail
                refine (HP2.out w3 (HW.out w3 tb3)).mono ?_
                rintro e w4 ⟨hb4, -, rfl⟩
                have hb24 := hb3.trans (hb4.mono hb3.size)
                have q1 : (e1 == 0) = false := beq_eq_false_iff_ne.2 hne
                go_wp2_with fail
                refine (same_any false 1 (fun _ => False) (fun _ => False) (.slice none 0 0) (.slice none 0 0) [] [] w4 (CmdsAt.nil _ _) (CmdsAt.nil _ _) .nil (by decide) (by decide)).mono ?_
                rintro e w5 ⟨rfl, hd5⟩
                have hbr5 := hb24.trans ((drw_below hd5).mono hb24.size)
                have hb25 := hbel.trans (hbr5.mono hz)
                have HMv := Lib.hid hmv
                have hN0 : NoAt ts a1 0 := fun j _ h => absurd h (Nat.not_lt_zero _)
                clear hd5 hb24 hb4 hb3 hne hmv
                go_wp2_with fail
                generalize wr = wz at *
                go_loopw [20] (fun iv wr => ∃ i2 : Nat, iv = .int .i64 i2 ∧ Below w5.heap.size w5 wr ∧ i2 ≤ ts.length ∧ Hid (NoAt ts a1 i2)) (fun iv _ => ts.length - (intOf iv).toNat)
                case atStart => exact ⟨0, by first | rfl | trivial, Below.refl _ _, by omega, hN0⟩
                case round =>
                  obtain ⟨i2, rfl, hb6, hi2, hno⟩ := hrel
                  have tb5 := tb.trans (hb25.mono tb.size)
                  have tb6 := tb5.trans (hb6.mono tb5.size)
                  by_cases hlt2 : i2 < ts.length
                  · rcases HCl.out with h0 | ⟨gt, rfl, hgt, hcel⟩
                    · have : ts = [] := List.map_eq_nil_iff.1 h0
                      rw [this] at hlt2; cases hlt2
                    · rcases HAc.out with h0 | ⟨ga, rfl, hga, hac⟩
                      · have := HLe.out; rw [h0] at this; simp at this; omega
                      · have c3 : wr.cell? ⟨gt, i2 * 4 + 3, none⟩ = some (.int .i64 ((ts[i2].2 : Nat) : Int)) := cell_later (hb25.trans (hb6.mono hb25.size)) (hcel i2 (by rw [List.length_map]; exact hlt2) 3 _ (by rw [List.getElem_map]; rfl))
                        by_cases heq : ((ts[i2].2 : Nat) : Int) = a1
                        · have hA2 : A[i2]? = some a2 := by
                            have hAe := HAe.out
                            rcases HMv.out with ⟨k, h1, h2, h3, h4⟩ | ⟨h3, -⟩
                            · rw [List.length_map] at h1
                              have hk : k = i2 := by
                                refine run_inj HRun.out k i2 h1 hlt2 ?_
                                rw [List.getElem_map] at h3
                                omega
                              subst hk
                              rw [hAe, List.getElem?_map, List.getElem?_eq_getElem (by rw [looseA_len]; exact hlt2), h4, List.getElem_map]
                              rfl
                            · have h5 := (HRun.out.le _ (List.getElem_mem hlt2)).2
                              have h6 : s.data.toList.length = s.size := Array.length_toList
                              omega
                          have d2 : wr.cell? ⟨ga, i2, none⟩ = some (.int .i64 a2) := cell_later (hbr5.trans (hb6.mono hbr5.size)) (hac i2 a2 hA2)
                          have q2 : (((ts[i2].2 : Nat) : Int) == a1) = true := beq_iff_eq.2 heq
                          have hlc : i2 < A.length := by have := HLe.out; omega
                          generalize ((ts[i2].2 : Nat) : Int) = xa at *
                          clear hcel hac heq hA2
                          go_wp2
                          go_ret
                          exact ⟨rfl, tb6⟩
                        · have q2 : (((ts[i2].2 : Nat) : Int) == a1) = false := beq_eq_false_iff_ne.2 heq
                          have hno2 : NoAt ts a1 (i2 + 1) := fun j h1 h2 => by
                            by_cases hj : j = i2
                            · subst hj; exact heq
                            · exact hno.out j h1 (by omega)
                          have HN2 := Lib.hid hno2
                          generalize ((ts[i2].2 : Nat) : Int) = xa at *
                          clear hcel hac heq hno2 hno
                          go_wp2
                          go_roundw
                          case rel => exact ⟨i2 + 1, by go_num, hb6, by omega, HN2.out⟩
                          case measure => simp [intOf]; omega
                  · have hend : a1 = (s.size : Nat) ∧ a2 = (S.size : Nat) := by
                      rcases HMv.out with ⟨k, h1, h2, h3, h4⟩ | ⟨h3, h4⟩
                      · rw [List.length_map] at h1
                        rw [List.getElem_map] at h3
                        exact absurd h3.symm (hno.out k h1 (by omega))
                      · exact ⟨h3, h4⟩
                    obtain ⟨rfl, rfl⟩ := hend
                    clear hno HMv
                    go_wp2
                    go_ret
                    exact ⟨rfl, tb6⟩
            | ok b1 =>
              cases r2 with
              | error e2 => exact hpr.elim
              | ok b2 =>
                have hcl : CL (Pl false) b1 b2 := CL_weak (fun _ _ _ h => by cases h) hpr
                have hwb := (pres_w HR1.out).2
                go_wp2_with fail
                refine (HP1.out wr tbr).mono ?_
                rintro e w3 ⟨hb3, ⟨p3, n3, c3⟩, rfl, hC1⟩
                have tb3 := tbr.trans (hb3.mono tbr.size)
                dsimp only [SlV.val] at hC1 ⊢
                go_wp2_with fail
                refine (HP2.out w3 (HW.out w3 tb3)).mono ?_
                rintro e w4 ⟨hb4, ⟨p4, n4, c4⟩, rfl, hC2⟩
                have tb4 := tb3.trans (hb4.mono tb3.size)
                replace hC1 := hC1.keeps (Y := Fresh wr w3) (fun g _ hg => hb4.block g hg) hb4.size fun _ h => h
                dsimp only [SlV.val] at hC2 ⊢
                have HS := Lib.hid (same_any false (wCs b1 + 1) _ _ _ _ b1 b2 w4 hC1 hC2 hcl (by omega) (by omega))
                clear hC1 hC2 hcl hwb hpr
                go_wp2_with fail
                refine HS.out.mono ?_
                rintro e w5 ⟨rfl, hd5⟩
                go_wp2
                go_ret
                exact ⟨rfl, tb4.trans ((drw_below hd5).mono tb4.size)⟩
      ·
        -- G the gap's text, g its bytes
        obtain ⟨r1, hr1⟩ := pres_any s
        have hTW := run_tokW hrun
        have hcnt := hrun.count
        have hdl : s.data.toList.length = s.size := Array.length_toList
        have hrw := run_w hrun
        have hLB := looseL_le ([13, 10, 9] : List UInt8) (by decide) ts ([13, 10, 9] : List UInt8) hTW
        have hLB2 : (looseL ([13, 10, 9] : List UInt8) ([13, 10, 9] : List UInt8) ts).length ≤ 100000 := by (have e : (([13, 10, 9] : List UInt8) : List UInt8).length ≤ 10 := by decide); omega
        have HSc := Lib.hid (fun w1 (hb : Below w.heap.size w w1) => scan_ok s ts hrun w1 (HW.out w1 hb) (by omega))
        have HP1 := Lib.hid (fun w1 (hb : Below w.heap.size w w1) => script_any s r1 hr1 (by omega) w1 (HW.out w1 hb))
        have HWd := Lib.hid (fun i (hi : i < ts.length) w1 (hb : Below w.heap.size w w1) => wordB_any ts[i].1 (ts[i].2 : Nat) (hTW _ (List.getElem_mem hi)) (by have := wLx_mem ts i hi; omega) w1 (HT.out w1 hb))
        have hWl : ∀ i (hi : i < ts.length), (wordT ts[i].1).length ≤ 20000 := fun i hi => by have h1 := wordT_len (hTW _ (List.getElem_mem hi)); have h2 := wLx_mem ts i hi; omega
        have HRun := Lib.hid hrun
        have HR1 := Lib.hid hr1
        clear hcnt hrw hLB hr1 hTW hdl
        have tb : Below w.heap.size w w := Below.refl _ _
        go_enter Tryz.func7, Tryz.ntmps7
        go_wp2_with fail
        refine HSm.out.mono ?_
        rintro e w1 ⟨rfl, hb1⟩
        replace tb := tb.trans (hb1.mono tb.size)
        have hbA := (Below.refl w1.heap.size w1).alloc (Nat.le_refl _) (.cells #[.string ⟨#[32]⟩, .string ⟨#[13, 10, 9]⟩, .string ⟨#[32, 35, 32, 110, 111, 59, 32, 123, 10]⟩, .string ⟨#[47, 42, 32, 120, 59, 32, 42, 47]⟩] 9)
        replace tb := tb.trans (hbA.mono tb.size)
        go_wp2_with fail
        refine (HSc.out _ tb).mono ?_
        rintro e w2 ⟨p, c, rfl, hse, hb2⟩
        replace tb := tb.trans (hb2.mono tb.size)
        obtain ⟨p', c', he, hpc, hcells⟩ := hse.form
        rw [List.length_map] at he hpc
        injection he with e1 e2 e3
        subst e1 e3
        have HCl := Lib.hid hcells
        have hts : ts.length ≤ 2000 := by have := HRun.out.count; have h2 : s.data.toList.length = s.size := Array.length_toList; omega
        clear hse hcells e2 hbA hb2
        go_wp2_with fail
        go_loopw [11, 12, 13] (fun sv av iv wr => ∃ (i : Nat) (S : ByteArray) (A : List Int), iv = .int .i64 i ∧ sv = .string S ∧ i ≤ ts.length ∧ Below w2.heap.size w2 wr ∧ ownsG intL wr w2.heap.size 3 av A ∧ A.length ≤ i ∧ Hid (LsTo ([13, 10, 9] : List UInt8) ts i S A)) (fun _ _ iv _ => ts.length - (intOf iv).toNat)
        case atStart => exact ⟨0, (⟨#[13, 10, 9]⟩ : ByteArray), [], by first | rfl | trivial, rfl, by omega, Below.refl _ _, ownsG.nil _ _ _ _, by simp, ⟨rfl, rfl⟩⟩
        case round =>
          obtain ⟨i, S, A, rfl, rfl, hi, hbel, hown, hAl, hrel⟩ := hrel
          have hz := hbel.size
          have hSz : S.size ≤ 100000 := Nat.le_trans (lsTo_len hrel.out) hLB2
          by_cases hlt : i < ts.length
          · rcases HCl.out with h0 | ⟨gt, rfl, hgt, hcel⟩
            · have : ts = [] := List.map_eq_nil_iff.1 h0
              rw [this] at hlt; cases hlt
            · have a1 : ∀ j u, (lexLay.enc (lexOf ts[i]))[j]? = some u → wr.cell? ⟨gt, i * 4 + j, none⟩ = some u := fun j u hu => cell_later hbel (hcel i (by rw [List.length_map]; exact hlt) j u (by rw [List.getElem_map]; exact hu))
              have c0 : wr.cell? ⟨gt, i * 4, none⟩ = some (.int .i64 ((ts[i].1.k : Nat) : Int)) := a1 0 _ rfl
              have c1 : wr.cell? ⟨gt, i * 4 + 1, none⟩ = some (.string (toB ts[i].1.t)) := a1 1 _ rfl
              have c2 : wr.cell? ⟨gt, i * 4 + 2, none⟩ = some (.int .i64 ((ts[i].1.n : Nat) : Int)) := a1 2 _ rfl
              have c3 : wr.cell? ⟨gt, i * 4 + 3, none⟩ = some (.int .i64 ((ts[i].2 : Nat) : Int)) := a1 3 _ rfl
              have hcw := fun W (hb : Below w2.heap.size w2 W) => HWd.out i hlt W (tb.trans (hb.mono tb.size))
              have hwl := hWl i hlt
              obtain ⟨Q, hQ, hQd, hQs⟩ := arr2 (wordT ts[i].1)
              unfold StRet at hcw
              rw [← hQ] at hcw
              have hQ3 : Q.size ≤ 20000 := by omega
              have hsS : (S ++ Q ++ (⟨#[13, 10, 9]⟩ : ByteArray) : ByteArray).data.toList = S.data.toList ++ wordT ts[i].1 ++ ([13, 10, 9] : List UInt8) := by rw [ByteArray.data_append, ByteArray.data_append, Array.toList_append, Array.toList_append, hQd]
              have hst := Lib.hid (lsTo_step hrel.out hlt hsS)
              have HCw := Lib.hid hcw
              generalize ((ts[i].1.k : Nat) : Int) = xk at *
              generalize toB ts[i].1.t = xt at *
              generalize ((ts[i].1.n : Nat) : Int) = xn at *
              generalize ((ts[i].2 : Nat) : Int) = xa at *
              clear a1 hcel hcw hQ hQd hQs hsS hrel hwl
              have d0 := fun W (hb : Below wr.heap.size wr W) => cell_later hb c0
              have d1 := fun W (hb : Below wr.heap.size wr W) => cell_later hb c1
              have d2 := fun W (hb : Below wr.heap.size wr W) => cell_later hb c2
              have d3 := fun W (hb : Below wr.heap.size wr W) => cell_later hb c3
              have hgt2 : gt < w2.heap.size := hgt
              go_wp2_with (at_builtin; go_loud (refine append_g _ rfl (.tmp 48) (.tmp 51) slI rfl w2.heap.size _ A rfl (ownsG.alloc hown _) ⟨_, 0, none⟩ [(S.size : Int)] 1 1 rfl rfl (cells_at _ _ (by simp) _ _) (by omega) (by omega) (by simp; omega) ?_; intro v6 w6 hown6 hg6; have hb6 := Below_grownG (hbel.alloc hz (.cells #[.int .i64 S.size] 3)) (ownsG.alloc hown _) hg6 (by simp; omega); have f0 := (World.cell?_of_block (hb6.block gt hgt2)).trans ((World.cell?_of_block (hbel.block gt hgt2)).symm.trans c0); have f1 := (World.cell?_of_block (hb6.block gt hgt2)).trans ((World.cell?_of_block (hbel.block gt hgt2)).symm.trans c1); have f2 := (World.cell?_of_block (hb6.block gt hgt2)).trans ((World.cell?_of_block (hbel.block gt hgt2)).symm.trans c2); have f3 := (World.cell?_of_block (hb6.block gt hgt2)).trans ((World.cell?_of_block (hbel.block gt hgt2)).symm.trans c3); clear hg6))
              refine (HCw.out w6 hb6).mono ?_
              rintro e w7 ⟨rfl, hb7⟩
              go_wp2
              go_roundw
              case rel => exact ⟨i + 1, _, _, by go_num, rfl, by omega, hb6.trans (hb7.mono hb6.size), hown6.below hb7 (Nat.le_refl _), by rw [List.length_append, List.length_singleton]; omega, hst⟩
              case measure => simp [intOf]; omega
          · obtain ⟨hS, hA⟩ := lsTo_end hrel.out hlt
            obtain ⟨r2, hr2, hpr⟩ := blanks_plain gap1 HRun.out hS r1 HR1.out
            have HP2 := Lib.hid (script_any S r2 hr2 (by omega))
            obtain ⟨pa, ca, rfl, hca, hAc⟩ := ints_form hown
            have HAc := Lib.hid hAc
            have hAlen : A.length = ts.length := by rw [hA, List.length_map, looseA_len]
            have HAe := Lib.hid hA
            have HLe := Lib.hid hAlen
            have tbr := tb.trans (hbel.mono tb.size)
            have hie := hlt
            clear hrel hown hS hA hAc hAlen hr2 hlt hAl
            cases r1 with
            | error e1 =>
              obtain ⟨e1, a1⟩ := e1
              cases r2 with
              | ok cc => exact hpr.elim
              | error e2 =>
                obtain ⟨e2, a2⟩ := e2
                obtain ⟨hee, hmv⟩ := hpr
                simp only at hee hmv
                subst hee
                go_wp2_with fail
                refine (HP1.out wr tbr).mono ?_
                rintro e w3 ⟨hb3, hne, rfl⟩
                have tb3 := tbr.trans (hb3.mono tbr.size)
                go_wp2_with fail
                refine (HP2.out w3 (HW.out w3 tb3)).mono ?_
                rintro e w4 ⟨hb4, -, rfl⟩
                have hb24 := hb3.trans (hb4.mono hb3.size)
                have q1 : (e1 == 0) = false := beq_eq_false_iff_ne.2 hne
                go_wp2_with fail
                refine (same_any false 1 (fun _ => False) (fun _ => False) (.slice none 0 0) (.slice none 0 0) [] [] w4 (CmdsAt.nil _ _) (CmdsAt.nil _ _) .nil (by decide) (by decide)).mono ?_
                rintro e w5 ⟨rfl, hd5⟩
                have hbr5 := hb24.trans ((drw_below hd5).mono hb24.size)
                have hb25 := hbel.trans (hbr5.mono hz)
                have HMv := Lib.hid hmv
                have hN0 : NoAt ts a1 0 := fun j _ h => absurd h (Nat.not_lt_zero _)
                clear hd5 hb24 hb4 hb3 hne hmv
                go_wp2_with fail
                generalize wr = wz at *
                go_loopw [20] (fun iv wr => ∃ i2 : Nat, iv = .int .i64 i2 ∧ Below w5.heap.size w5 wr ∧ i2 ≤ ts.length ∧ Hid (NoAt ts a1 i2)) (fun iv _ => ts.length - (intOf iv).toNat)
                case atStart => exact ⟨0, by first | rfl | trivial, Below.refl _ _, by omega, hN0⟩
                case round =>
                  obtain ⟨i2, rfl, hb6, hi2, hno⟩ := hrel
                  have tb5 := tb.trans (hb25.mono tb.size)
                  have tb6 := tb5.trans (hb6.mono tb5.size)
                  by_cases hlt2 : i2 < ts.length
                  · rcases HCl.out with h0 | ⟨gt, rfl, hgt, hcel⟩
                    · have : ts = [] := List.map_eq_nil_iff.1 h0
                      rw [this] at hlt2; cases hlt2
                    · rcases HAc.out with h0 | ⟨ga, rfl, hga, hac⟩
                      · have := HLe.out; rw [h0] at this; simp at this; omega
                      · have c3 : wr.cell? ⟨gt, i2 * 4 + 3, none⟩ = some (.int .i64 ((ts[i2].2 : Nat) : Int)) := cell_later (hb25.trans (hb6.mono hb25.size)) (hcel i2 (by rw [List.length_map]; exact hlt2) 3 _ (by rw [List.getElem_map]; rfl))
                        by_cases heq : ((ts[i2].2 : Nat) : Int) = a1
                        · have hA2 : A[i2]? = some a2 := by
                            have hAe := HAe.out
                            rcases HMv.out with ⟨k, h1, h2, h3, h4⟩ | ⟨h3, -⟩
                            · rw [List.length_map] at h1
                              have hk : k = i2 := by
                                refine run_inj HRun.out k i2 h1 hlt2 ?_
                                rw [List.getElem_map] at h3
                                omega
                              subst hk
                              rw [hAe, List.getElem?_map, List.getElem?_eq_getElem (by rw [looseA_len]; exact hlt2), h4, List.getElem_map]
                              rfl
                            · have h5 := (HRun.out.le _ (List.getElem_mem hlt2)).2
                              have h6 : s.data.toList.length = s.size := Array.length_toList
                              omega
                          have d2 : wr.cell? ⟨ga, i2, none⟩ = some (.int .i64 a2) := cell_later (hbr5.trans (hb6.mono hbr5.size)) (hac i2 a2 hA2)
                          have q2 : (((ts[i2].2 : Nat) : Int) == a1) = true := beq_iff_eq.2 heq
                          have hlc : i2 < A.length := by have := HLe.out; omega
                          generalize ((ts[i2].2 : Nat) : Int) = xa at *
                          clear hcel hac heq hA2
                          go_wp2
                          go_ret
                          exact ⟨rfl, tb6⟩
                        · have q2 : (((ts[i2].2 : Nat) : Int) == a1) = false := beq_eq_false_iff_ne.2 heq
                          have hno2 : NoAt ts a1 (i2 + 1) := fun j h1 h2 => by
                            by_cases hj : j = i2
                            · subst hj; exact heq
                            · exact hno.out j h1 (by omega)
                          have HN2 := Lib.hid hno2
                          generalize ((ts[i2].2 : Nat) : Int) = xa at *
                          clear hcel hac heq hno2 hno
                          go_wp2
                          go_roundw
                          case rel => exact ⟨i2 + 1, by go_num, hb6, by omega, HN2.out⟩
                          case measure => simp [intOf]; omega
                  · have hend : a1 = (s.size : Nat) ∧ a2 = (S.size : Nat) := by
                      rcases HMv.out with ⟨k, h1, h2, h3, h4⟩ | ⟨h3, h4⟩
                      · rw [List.length_map] at h1
                        rw [List.getElem_map] at h3
                        exact absurd h3.symm (hno.out k h1 (by omega))
                      · exact ⟨h3, h4⟩
                    obtain ⟨rfl, rfl⟩ := hend
                    clear hno HMv
                    go_wp2
                    go_ret
                    exact ⟨rfl, tb6⟩
            | ok b1 =>
              cases r2 with
              | error e2 => exact hpr.elim
              | ok b2 =>
                have hcl : CL (Pl false) b1 b2 := CL_weak (fun _ _ _ h => by cases h) hpr
                have hwb := (pres_w HR1.out).2
                go_wp2_with fail
                refine (HP1.out wr tbr).mono ?_
                rintro e w3 ⟨hb3, ⟨p3, n3, c3⟩, rfl, hC1⟩
                have tb3 := tbr.trans (hb3.mono tbr.size)
                dsimp only [SlV.val] at hC1 ⊢
                go_wp2_with fail
                refine (HP2.out w3 (HW.out w3 tb3)).mono ?_
                rintro e w4 ⟨hb4, ⟨p4, n4, c4⟩, rfl, hC2⟩
                have tb4 := tb3.trans (hb4.mono tb3.size)
                replace hC1 := hC1.keeps (Y := Fresh wr w3) (fun g _ hg => hb4.block g hg) hb4.size fun _ h => h
                dsimp only [SlV.val] at hC2 ⊢
                have HS := Lib.hid (same_any false (wCs b1 + 1) _ _ _ _ b1 b2 w4 hC1 hC2 hcl (by omega) (by omega))
                clear hC1 hC2 hcl hwb hpr
                go_wp2_with fail
                refine HS.out.mono ?_
                rintro e w5 ⟨rfl, hd5⟩
                go_wp2
                go_ret
                exact ⟨rfl, tb4.trans ((drw_below hd5).mono tb4.size)⟩
      ·
        -- G the gap's text, g its bytes
        obtain ⟨r1, hr1⟩ := pres_any s
        have hTW := run_tokW hrun
        have hcnt := hrun.count
        have hdl : s.data.toList.length = s.size := Array.length_toList
        have hrw := run_w hrun
        have hLB := looseL_le ([32, 35, 32, 110, 111, 59, 32, 123, 10] : List UInt8) (by decide) ts ([32, 35, 32, 110, 111, 59, 32, 123, 10] : List UInt8) hTW
        have hLB2 : (looseL ([32, 35, 32, 110, 111, 59, 32, 123, 10] : List UInt8) ([32, 35, 32, 110, 111, 59, 32, 123, 10] : List UInt8) ts).length ≤ 100000 := by (have e : (([32, 35, 32, 110, 111, 59, 32, 123, 10] : List UInt8) : List UInt8).length ≤ 10 := by decide); omega
        have HSc := Lib.hid (fun w1 (hb : Below w.heap.size w w1) => scan_ok s ts hrun w1 (HW.out w1 hb) (by omega))
        have HP1 := Lib.hid (fun w1 (hb : Below w.heap.size w w1) => script_any s r1 hr1 (by omega) w1 (HW.out w1 hb))
        have HWd := Lib.hid (fun i (hi : i < ts.length) w1 (hb : Below w.heap.size w w1) => wordB_any ts[i].1 (ts[i].2 : Nat) (hTW _ (List.getElem_mem hi)) (by have := wLx_mem ts i hi; omega) w1 (HT.out w1 hb))
        have hWl : ∀ i (hi : i < ts.length), (wordT ts[i].1).length ≤ 20000 := fun i hi => by have h1 := wordT_len (hTW _ (List.getElem_mem hi)); have h2 := wLx_mem ts i hi; omega
        have HRun := Lib.hid hrun
        have HR1 := Lib.hid hr1
        clear hcnt hrw hLB hr1 hTW hdl
        have tb : Below w.heap.size w w := Below.refl _ _
        go_enter Tryz.func7, Tryz.ntmps7
        go_wp2_with fail
        refine HSm.out.mono ?_
        rintro e w1 ⟨rfl, hb1⟩
        replace tb := tb.trans (hb1.mono tb.size)
        have hbA := (Below.refl w1.heap.size w1).alloc (Nat.le_refl _) (.cells #[.string ⟨#[32]⟩, .string ⟨#[13, 10, 9]⟩, .string ⟨#[32, 35, 32, 110, 111, 59, 32, 123, 10]⟩, .string ⟨#[47, 42, 32, 120, 59, 32, 42, 47]⟩] 9)
        replace tb := tb.trans (hbA.mono tb.size)
        go_wp2_with fail
        refine (HSc.out _ tb).mono ?_
        rintro e w2 ⟨p, c, rfl, hse, hb2⟩
        replace tb := tb.trans (hb2.mono tb.size)
        obtain ⟨p', c', he, hpc, hcells⟩ := hse.form
        rw [List.length_map] at he hpc
        injection he with e1 e2 e3
        subst e1 e3
        have HCl := Lib.hid hcells
        have hts : ts.length ≤ 2000 := by have := HRun.out.count; have h2 : s.data.toList.length = s.size := Array.length_toList; omega
        clear hse hcells e2 hbA hb2
        go_wp2_with fail
        go_loopw [11, 12, 13] (fun sv av iv wr => ∃ (i : Nat) (S : ByteArray) (A : List Int), iv = .int .i64 i ∧ sv = .string S ∧ i ≤ ts.length ∧ Below w2.heap.size w2 wr ∧ ownsG intL wr w2.heap.size 3 av A ∧ A.length ≤ i ∧ Hid (LsTo ([32, 35, 32, 110, 111, 59, 32, 123, 10] : List UInt8) ts i S A)) (fun _ _ iv _ => ts.length - (intOf iv).toNat)
        case atStart => exact ⟨0, (⟨#[32, 35, 32, 110, 111, 59, 32, 123, 10]⟩ : ByteArray), [], by first | rfl | trivial, rfl, by omega, Below.refl _ _, ownsG.nil _ _ _ _, by simp, ⟨rfl, rfl⟩⟩
        case round =>
          obtain ⟨i, S, A, rfl, rfl, hi, hbel, hown, hAl, hrel⟩ := hrel
          have hz := hbel.size
          have hSz : S.size ≤ 100000 := Nat.le_trans (lsTo_len hrel.out) hLB2
          by_cases hlt : i < ts.length
          · rcases HCl.out with h0 | ⟨gt, rfl, hgt, hcel⟩
            · have : ts = [] := List.map_eq_nil_iff.1 h0
              rw [this] at hlt; cases hlt
            · have a1 : ∀ j u, (lexLay.enc (lexOf ts[i]))[j]? = some u → wr.cell? ⟨gt, i * 4 + j, none⟩ = some u := fun j u hu => cell_later hbel (hcel i (by rw [List.length_map]; exact hlt) j u (by rw [List.getElem_map]; exact hu))
              have c0 : wr.cell? ⟨gt, i * 4, none⟩ = some (.int .i64 ((ts[i].1.k : Nat) : Int)) := a1 0 _ rfl
              have c1 : wr.cell? ⟨gt, i * 4 + 1, none⟩ = some (.string (toB ts[i].1.t)) := a1 1 _ rfl
              have c2 : wr.cell? ⟨gt, i * 4 + 2, none⟩ = some (.int .i64 ((ts[i].1.n : Nat) : Int)) := a1 2 _ rfl
              have c3 : wr.cell? ⟨gt, i * 4 + 3, none⟩ = some (.int .i64 ((ts[i].2 : Nat) : Int)) := a1 3 _ rfl
              have hcw := fun W (hb : Below w2.heap.size w2 W) => HWd.out i hlt W (tb.trans (hb.mono tb.size))
              have hwl := hWl i hlt
              obtain ⟨Q, hQ, hQd, hQs⟩ := arr2 (wordT ts[i].1)
              unfold StRet at hcw
              rw [← hQ] at hcw
              have hQ3 : Q.size ≤ 20000 := by omega
              have hsS : (S ++ Q ++ (⟨#[32, 35, 32, 110, 111, 59, 32, 123, 10]⟩ : ByteArray) : ByteArray).data.toList = S.data.toList ++ wordT ts[i].1 ++ ([32, 35, 32, 110, 111, 59, 32, 123, 10] : List UInt8) := by rw [ByteArray.data_append, ByteArray.data_append, Array.toList_append, Array.toList_append, hQd]
              have hst := Lib.hid (lsTo_step hrel.out hlt hsS)
              have HCw := Lib.hid hcw
              generalize ((ts[i].1.k : Nat) : Int) = xk at *
              generalize toB ts[i].1.t = xt at *
              generalize ((ts[i].1.n : Nat) : Int) = xn at *
              generalize ((ts[i].2 : Nat) : Int) = xa at *
              clear a1 hcel hcw hQ hQd hQs hsS hrel hwl
              have d0 := fun W (hb : Below wr.heap.size wr W) => cell_later hb c0
              have d1 := fun W (hb : Below wr.heap.size wr W) => cell_later hb c1
              have d2 := fun W (hb : Below wr.heap.size wr W) => cell_later hb c2
              have d3 := fun W (hb : Below wr.heap.size wr W) => cell_later hb c3
              have hgt2 : gt < w2.heap.size := hgt
              go_wp2_with (at_builtin; go_loud (refine append_g _ rfl (.tmp 48) (.tmp 51) slI rfl w2.heap.size _ A rfl (ownsG.alloc hown _) ⟨_, 0, none⟩ [(S.size : Int)] 1 1 rfl rfl (cells_at _ _ (by simp) _ _) (by omega) (by omega) (by simp; omega) ?_; intro v6 w6 hown6 hg6; have hb6 := Below_grownG (hbel.alloc hz (.cells #[.int .i64 S.size] 3)) (ownsG.alloc hown _) hg6 (by simp; omega); have f0 := (World.cell?_of_block (hb6.block gt hgt2)).trans ((World.cell?_of_block (hbel.block gt hgt2)).symm.trans c0); have f1 := (World.cell?_of_block (hb6.block gt hgt2)).trans ((World.cell?_of_block (hbel.block gt hgt2)).symm.trans c1); have f2 := (World.cell?_of_block (hb6.block gt hgt2)).trans ((World.cell?_of_block (hbel.block gt hgt2)).symm.trans c2); have f3 := (World.cell?_of_block (hb6.block gt hgt2)).trans ((World.cell?_of_block (hbel.block gt hgt2)).symm.trans c3); clear hg6))
              refine (HCw.out w6 hb6).mono ?_
              rintro e w7 ⟨rfl, hb7⟩
              go_wp2
              go_roundw
              case rel => exact ⟨i + 1, _, _, by go_num, rfl, by omega, hb6.trans (hb7.mono hb6.size), hown6.below hb7 (Nat.le_refl _), by rw [List.length_append, List.length_singleton]; omega, hst⟩
              case measure => simp [intOf]; omega
          · obtain ⟨hS, hA⟩ := lsTo_end hrel.out hlt
            obtain ⟨r2, hr2, hpr⟩ := blanks_plain gap2 HRun.out hS r1 HR1.out
            have HP2 := Lib.hid (script_any S r2 hr2 (by omega))
            obtain ⟨pa, ca, rfl, hca, hAc⟩ := ints_form hown
            have HAc := Lib.hid hAc
            have hAlen : A.length = ts.length := by rw [hA, List.length_map, looseA_len]
            have HAe := Lib.hid hA
            have HLe := Lib.hid hAlen
            have tbr := tb.trans (hbel.mono tb.size)
            have hie := hlt
            clear hrel hown hS hA hAc hAlen hr2 hlt hAl
            cases r1 with
            | error e1 =>
              obtain ⟨e1, a1⟩ := e1
              cases r2 with
              | ok cc => exact hpr.elim
              | error e2 =>
                obtain ⟨e2, a2⟩ := e2
                obtain ⟨hee, hmv⟩ := hpr
                simp only at hee hmv
                subst hee
                go_wp2_with fail
                refine (HP1.out wr tbr).mono ?_
                rintro e w3 ⟨hb3, hne, rfl⟩
                have tb3 := tbr.trans (hb3.mono tbr.size)
                go_wp2_with fail
                refine (HP2.out w3 (HW.out w3 tb3)).mono ?_
                rintro e w4 ⟨hb4, -, rfl⟩
                have hb24 := hb3.trans (hb4.mono hb3.size)
                have q1 : (e1 == 0) = false := beq_eq_false_iff_ne.2 hne
                go_wp2_with fail
                refine (same_any false 1 (fun _ => False) (fun _ => False) (.slice none 0 0) (.slice none 0 0) [] [] w4 (CmdsAt.nil _ _) (CmdsAt.nil _ _) .nil (by decide) (by decide)).mono ?_
                rintro e w5 ⟨rfl, hd5⟩
                have hbr5 := hb24.trans ((drw_below hd5).mono hb24.size)
                have hb25 := hbel.trans (hbr5.mono hz)
                have HMv := Lib.hid hmv
                have hN0 : NoAt ts a1 0 := fun j _ h => absurd h (Nat.not_lt_zero _)
                clear hd5 hb24 hb4 hb3 hne hmv
                go_wp2_with fail
                generalize wr = wz at *
                go_loopw [20] (fun iv wr => ∃ i2 : Nat, iv = .int .i64 i2 ∧ Below w5.heap.size w5 wr ∧ i2 ≤ ts.length ∧ Hid (NoAt ts a1 i2)) (fun iv _ => ts.length - (intOf iv).toNat)
                case atStart => exact ⟨0, by first | rfl | trivial, Below.refl _ _, by omega, hN0⟩
                case round =>
                  obtain ⟨i2, rfl, hb6, hi2, hno⟩ := hrel
                  have tb5 := tb.trans (hb25.mono tb.size)
                  have tb6 := tb5.trans (hb6.mono tb5.size)
                  by_cases hlt2 : i2 < ts.length
                  · rcases HCl.out with h0 | ⟨gt, rfl, hgt, hcel⟩
                    · have : ts = [] := List.map_eq_nil_iff.1 h0
                      rw [this] at hlt2; cases hlt2
                    · rcases HAc.out with h0 | ⟨ga, rfl, hga, hac⟩
                      · have := HLe.out; rw [h0] at this; simp at this; omega
                      · have c3 : wr.cell? ⟨gt, i2 * 4 + 3, none⟩ = some (.int .i64 ((ts[i2].2 : Nat) : Int)) := cell_later (hb25.trans (hb6.mono hb25.size)) (hcel i2 (by rw [List.length_map]; exact hlt2) 3 _ (by rw [List.getElem_map]; rfl))
                        by_cases heq : ((ts[i2].2 : Nat) : Int) = a1
                        · have hA2 : A[i2]? = some a2 := by
                            have hAe := HAe.out
                            rcases HMv.out with ⟨k, h1, h2, h3, h4⟩ | ⟨h3, -⟩
                            · rw [List.length_map] at h1
                              have hk : k = i2 := by
                                refine run_inj HRun.out k i2 h1 hlt2 ?_
                                rw [List.getElem_map] at h3
                                omega
                              subst hk
                              rw [hAe, List.getElem?_map, List.getElem?_eq_getElem (by rw [looseA_len]; exact hlt2), h4, List.getElem_map]
                              rfl
                            · have h5 := (HRun.out.le _ (List.getElem_mem hlt2)).2
                              have h6 : s.data.toList.length = s.size := Array.length_toList
                              omega
                          have d2 : wr.cell? ⟨ga, i2, none⟩ = some (.int .i64 a2) := cell_later (hbr5.trans (hb6.mono hbr5.size)) (hac i2 a2 hA2)
                          have q2 : (((ts[i2].2 : Nat) : Int) == a1) = true := beq_iff_eq.2 heq
                          have hlc : i2 < A.length := by have := HLe.out; omega
                          generalize ((ts[i2].2 : Nat) : Int) = xa at *
                          clear hcel hac heq hA2
                          go_wp2
                          go_ret
                          exact ⟨rfl, tb6⟩
                        · have q2 : (((ts[i2].2 : Nat) : Int) == a1) = false := beq_eq_false_iff_ne.2 heq
                          have hno2 : NoAt ts a1 (i2 + 1) := fun j h1 h2 => by
                            by_cases hj : j = i2
                            · subst hj; exact heq
                            · exact hno.out j h1 (by omega)
                          have HN2 := Lib.hid hno2
                          generalize ((ts[i2].2 : Nat) : Int) = xa at *
                          clear hcel hac heq hno2 hno
                          go_wp2
                          go_roundw
                          case rel => exact ⟨i2 + 1, by go_num, hb6, by omega, HN2.out⟩
                          case measure => simp [intOf]; omega
                  · have hend : a1 = (s.size : Nat) ∧ a2 = (S.size : Nat) := by
                      rcases HMv.out with ⟨k, h1, h2, h3, h4⟩ | ⟨h3, h4⟩
                      · rw [List.length_map] at h1
                        rw [List.getElem_map] at h3
                        exact absurd h3.symm (hno.out k h1 (by omega))
                      · exact ⟨h3, h4⟩
                    obtain ⟨rfl, rfl⟩ := hend
                    clear hno HMv
                    go_wp2
                    go_ret
                    exact ⟨rfl, tb6⟩
            | ok b1 =>
              cases r2 with
              | error e2 => exact hpr.elim
              | ok b2 =>
                have hcl : CL (Pl false) b1 b2 := CL_weak (fun _ _ _ h => by cases h) hpr
                have hwb := (pres_w HR1.out).2
                go_wp2_with fail
                refine (HP1.out wr tbr).mono ?_
                rintro e w3 ⟨hb3, ⟨p3, n3, c3⟩, rfl, hC1⟩
                have tb3 := tbr.trans (hb3.mono tbr.size)
                dsimp only [SlV.val] at hC1 ⊢
                go_wp2_with fail
                refine (HP2.out w3 (HW.out w3 tb3)).mono ?_
                rintro e w4 ⟨hb4, ⟨p4, n4, c4⟩, rfl, hC2⟩
                have tb4 := tb3.trans (hb4.mono tb3.size)
                replace hC1 := hC1.keeps (Y := Fresh wr w3) (fun g _ hg => hb4.block g hg) hb4.size fun _ h => h
                dsimp only [SlV.val] at hC2 ⊢
                have HS := Lib.hid (same_any false (wCs b1 + 1) _ _ _ _ b1 b2 w4 hC1 hC2 hcl (by omega) (by omega))
                clear hC1 hC2 hcl hwb hpr
                go_wp2_with fail
                refine HS.out.mono ?_
                rintro e w5 ⟨rfl, hd5⟩
                go_wp2
                go_ret
                exact ⟨rfl, tb4.trans ((drw_below hd5).mono tb4.size)⟩
      ·
        -- G the gap's text, g its bytes
        obtain ⟨r1, hr1⟩ := pres_any s
        have hTW := run_tokW hrun
        have hcnt := hrun.count
        have hdl : s.data.toList.length = s.size := Array.length_toList
        have hrw := run_w hrun
        have hLB := looseL_le ([47, 42, 32, 120, 59, 32, 42, 47] : List UInt8) (by decide) ts ([47, 42, 32, 120, 59, 32, 42, 47] : List UInt8) hTW
        have hLB2 : (looseL ([47, 42, 32, 120, 59, 32, 42, 47] : List UInt8) ([47, 42, 32, 120, 59, 32, 42, 47] : List UInt8) ts).length ≤ 100000 := by (have e : (([47, 42, 32, 120, 59, 32, 42, 47] : List UInt8) : List UInt8).length ≤ 10 := by decide); omega
        have HSc := Lib.hid (fun w1 (hb : Below w.heap.size w w1) => scan_ok s ts hrun w1 (HW.out w1 hb) (by omega))
        have HP1 := Lib.hid (fun w1 (hb : Below w.heap.size w w1) => script_any s r1 hr1 (by omega) w1 (HW.out w1 hb))
        have HWd := Lib.hid (fun i (hi : i < ts.length) w1 (hb : Below w.heap.size w w1) => wordB_any ts[i].1 (ts[i].2 : Nat) (hTW _ (List.getElem_mem hi)) (by have := wLx_mem ts i hi; omega) w1 (HT.out w1 hb))
        have hWl : ∀ i (hi : i < ts.length), (wordT ts[i].1).length ≤ 20000 := fun i hi => by have h1 := wordT_len (hTW _ (List.getElem_mem hi)); have h2 := wLx_mem ts i hi; omega
        have HRun := Lib.hid hrun
        have HR1 := Lib.hid hr1
        clear hcnt hrw hLB hr1 hTW hdl
        have tb : Below w.heap.size w w := Below.refl _ _
        go_enter Tryz.func7, Tryz.ntmps7
        go_wp2_with fail
        refine HSm.out.mono ?_
        rintro e w1 ⟨rfl, hb1⟩
        replace tb := tb.trans (hb1.mono tb.size)
        have hbA := (Below.refl w1.heap.size w1).alloc (Nat.le_refl _) (.cells #[.string ⟨#[32]⟩, .string ⟨#[13, 10, 9]⟩, .string ⟨#[32, 35, 32, 110, 111, 59, 32, 123, 10]⟩, .string ⟨#[47, 42, 32, 120, 59, 32, 42, 47]⟩] 9)
        replace tb := tb.trans (hbA.mono tb.size)
        go_wp2_with fail
        refine (HSc.out _ tb).mono ?_
        rintro e w2 ⟨p, c, rfl, hse, hb2⟩
        replace tb := tb.trans (hb2.mono tb.size)
        obtain ⟨p', c', he, hpc, hcells⟩ := hse.form
        rw [List.length_map] at he hpc
        injection he with e1 e2 e3
        subst e1 e3
        have HCl := Lib.hid hcells
        have hts : ts.length ≤ 2000 := by have := HRun.out.count; have h2 : s.data.toList.length = s.size := Array.length_toList; omega
        clear hse hcells e2 hbA hb2
        go_wp2_with fail
        go_loopw [11, 12, 13] (fun sv av iv wr => ∃ (i : Nat) (S : ByteArray) (A : List Int), iv = .int .i64 i ∧ sv = .string S ∧ i ≤ ts.length ∧ Below w2.heap.size w2 wr ∧ ownsG intL wr w2.heap.size 3 av A ∧ A.length ≤ i ∧ Hid (LsTo ([47, 42, 32, 120, 59, 32, 42, 47] : List UInt8) ts i S A)) (fun _ _ iv _ => ts.length - (intOf iv).toNat)
        case atStart => exact ⟨0, (⟨#[47, 42, 32, 120, 59, 32, 42, 47]⟩ : ByteArray), [], by first | rfl | trivial, rfl, by omega, Below.refl _ _, ownsG.nil _ _ _ _, by simp, ⟨rfl, rfl⟩⟩
        case round =>
          obtain ⟨i, S, A, rfl, rfl, hi, hbel, hown, hAl, hrel⟩ := hrel
          have hz := hbel.size
          have hSz : S.size ≤ 100000 := Nat.le_trans (lsTo_len hrel.out) hLB2
          by_cases hlt : i < ts.length
          · rcases HCl.out with h0 | ⟨gt, rfl, hgt, hcel⟩
            · have : ts = [] := List.map_eq_nil_iff.1 h0
              rw [this] at hlt; cases hlt
            · have a1 : ∀ j u, (lexLay.enc (lexOf ts[i]))[j]? = some u → wr.cell? ⟨gt, i * 4 + j, none⟩ = some u := fun j u hu => cell_later hbel (hcel i (by rw [List.length_map]; exact hlt) j u (by rw [List.getElem_map]; exact hu))
              have c0 : wr.cell? ⟨gt, i * 4, none⟩ = some (.int .i64 ((ts[i].1.k : Nat) : Int)) := a1 0 _ rfl
              have c1 : wr.cell? ⟨gt, i * 4 + 1, none⟩ = some (.string (toB ts[i].1.t)) := a1 1 _ rfl
              have c2 : wr.cell? ⟨gt, i * 4 + 2, none⟩ = some (.int .i64 ((ts[i].1.n : Nat) : Int)) := a1 2 _ rfl
              have c3 : wr.cell? ⟨gt, i * 4 + 3, none⟩ = some (.int .i64 ((ts[i].2 : Nat) : Int)) := a1 3 _ rfl
              have hcw := fun W (hb : Below w2.heap.size w2 W) => HWd.out i hlt W (tb.trans (hb.mono tb.size))
              have hwl := hWl i hlt
              obtain ⟨Q, hQ, hQd, hQs⟩ := arr2 (wordT ts[i].1)
              unfold StRet at hcw
              rw [← hQ] at hcw
              have hQ3 : Q.size ≤ 20000 := by omega
              have hsS : (S ++ Q ++ (⟨#[47, 42, 32, 120, 59, 32, 42, 47]⟩ : ByteArray) : ByteArray).data.toList = S.data.toList ++ wordT ts[i].1 ++ ([47, 42, 32, 120, 59, 32, 42, 47] : List UInt8) := by rw [ByteArray.data_append, ByteArray.data_append, Array.toList_append, Array.toList_append, hQd]
              have hst := Lib.hid (lsTo_step hrel.out hlt hsS)
              have HCw := Lib.hid hcw
              generalize ((ts[i].1.k : Nat) : Int) = xk at *
              generalize toB ts[i].1.t = xt at *
              generalize ((ts[i].1.n : Nat) : Int) = xn at *
              generalize ((ts[i].2 : Nat) : Int) = xa at *
              clear a1 hcel hcw hQ hQd hQs hsS hrel hwl
              have d0 := fun W (hb : Below wr.heap.size wr W) => cell_later hb c0
              have d1 := fun W (hb : Below wr.heap.size wr W) => cell_later hb c1
              have d2 := fun W (hb : Below wr.heap.size wr W) => cell_later hb c2
              have d3 := fun W (hb : Below wr.heap.size wr W) => cell_later hb c3
              have hgt2 : gt < w2.heap.size := hgt
              go_wp2_with (at_builtin; go_loud (refine append_g _ rfl (.tmp 48) (.tmp 51) slI rfl w2.heap.size _ A rfl (ownsG.alloc hown _) ⟨_, 0, none⟩ [(S.size : Int)] 1 1 rfl rfl (cells_at _ _ (by simp) _ _) (by omega) (by omega) (by simp; omega) ?_; intro v6 w6 hown6 hg6; have hb6 := Below_grownG (hbel.alloc hz (.cells #[.int .i64 S.size] 3)) (ownsG.alloc hown _) hg6 (by simp; omega); have f0 := (World.cell?_of_block (hb6.block gt hgt2)).trans ((World.cell?_of_block (hbel.block gt hgt2)).symm.trans c0); have f1 := (World.cell?_of_block (hb6.block gt hgt2)).trans ((World.cell?_of_block (hbel.block gt hgt2)).symm.trans c1); have f2 := (World.cell?_of_block (hb6.block gt hgt2)).trans ((World.cell?_of_block (hbel.block gt hgt2)).symm.trans c2); have f3 := (World.cell?_of_block (hb6.block gt hgt2)).trans ((World.cell?_of_block (hbel.block gt hgt2)).symm.trans c3); clear hg6))
              refine (HCw.out w6 hb6).mono ?_
              rintro e w7 ⟨rfl, hb7⟩
              go_wp2
              go_roundw
              case rel => exact ⟨i + 1, _, _, by go_num, rfl, by omega, hb6.trans (hb7.mono hb6.size), hown6.below hb7 (Nat.le_refl _), by rw [List.length_append, List.length_singleton]; omega, hst⟩
              case measure => simp [intOf]; omega
          · obtain ⟨hS, hA⟩ := lsTo_end hrel.out hlt
            obtain ⟨r2, hr2, hpr⟩ := blanks_plain gap3 HRun.out hS r1 HR1.out
            have HP2 := Lib.hid (script_any S r2 hr2 (by omega))
            obtain ⟨pa, ca, rfl, hca, hAc⟩ := ints_form hown
            have HAc := Lib.hid hAc
            have hAlen : A.length = ts.length := by rw [hA, List.length_map, looseA_len]
            have HAe := Lib.hid hA
            have HLe := Lib.hid hAlen
            have tbr := tb.trans (hbel.mono tb.size)
            have hie := hlt
            clear hrel hown hS hA hAc hAlen hr2 hlt hAl
            cases r1 with
            | error e1 =>
              obtain ⟨e1, a1⟩ := e1
              cases r2 with
              | ok cc => exact hpr.elim
              | error e2 =>
                obtain ⟨e2, a2⟩ := e2
                obtain ⟨hee, hmv⟩ := hpr
                simp only at hee hmv
                subst hee
                go_wp2_with fail
                refine (HP1.out wr tbr).mono ?_
                rintro e w3 ⟨hb3, hne, rfl⟩
                have tb3 := tbr.trans (hb3.mono tbr.size)
                go_wp2_with fail
                refine (HP2.out w3 (HW.out w3 tb3)).mono ?_
                rintro e w4 ⟨hb4, -, rfl⟩
                have hb24 := hb3.trans (hb4.mono hb3.size)
                have q1 : (e1 == 0) = false := beq_eq_false_iff_ne.2 hne
                go_wp2_with fail
                refine (same_any false 1 (fun _ => False) (fun _ => False) (.slice none 0 0) (.slice none 0 0) [] [] w4 (CmdsAt.nil _ _) (CmdsAt.nil _ _) .nil (by decide) (by decide)).mono ?_
                rintro e w5 ⟨rfl, hd5⟩
                have hbr5 := hb24.trans ((drw_below hd5).mono hb24.size)
                have hb25 := hbel.trans (hbr5.mono hz)
                have HMv := Lib.hid hmv
                have hN0 : NoAt ts a1 0 := fun j _ h => absurd h (Nat.not_lt_zero _)
                clear hd5 hb24 hb4 hb3 hne hmv
                go_wp2_with fail
                generalize wr = wz at *
                go_loopw [20] (fun iv wr => ∃ i2 : Nat, iv = .int .i64 i2 ∧ Below w5.heap.size w5 wr ∧ i2 ≤ ts.length ∧ Hid (NoAt ts a1 i2)) (fun iv _ => ts.length - (intOf iv).toNat)
                case atStart => exact ⟨0, by first | rfl | trivial, Below.refl _ _, by omega, hN0⟩
                case round =>
                  obtain ⟨i2, rfl, hb6, hi2, hno⟩ := hrel
                  have tb5 := tb.trans (hb25.mono tb.size)
                  have tb6 := tb5.trans (hb6.mono tb5.size)
                  by_cases hlt2 : i2 < ts.length
                  · rcases HCl.out with h0 | ⟨gt, rfl, hgt, hcel⟩
                    · have : ts = [] := List.map_eq_nil_iff.1 h0
                      rw [this] at hlt2; cases hlt2
                    · rcases HAc.out with h0 | ⟨ga, rfl, hga, hac⟩
                      · have := HLe.out; rw [h0] at this; simp at this; omega
                      · have c3 : wr.cell? ⟨gt, i2 * 4 + 3, none⟩ = some (.int .i64 ((ts[i2].2 : Nat) : Int)) := cell_later (hb25.trans (hb6.mono hb25.size)) (hcel i2 (by rw [List.length_map]; exact hlt2) 3 _ (by rw [List.getElem_map]; rfl))
                        by_cases heq : ((ts[i2].2 : Nat) : Int) = a1
                        · have hA2 : A[i2]? = some a2 := by
                            have hAe := HAe.out
                            rcases HMv.out with ⟨k, h1, h2, h3, h4⟩ | ⟨h3, -⟩
                            · rw [List.length_map] at h1
                              have hk : k = i2 := by
                                refine run_inj HRun.out k i2 h1 hlt2 ?_
                                rw [List.getElem_map] at h3
                                omega
                              subst hk
                              rw [hAe, List.getElem?_map, List.getElem?_eq_getElem (by rw [looseA_len]; exact hlt2), h4, List.getElem_map]
                              rfl
                            · have h5 := (HRun.out.le _ (List.getElem_mem hlt2)).2
                              have h6 : s.data.toList.length = s.size := Array.length_toList
                              omega
                          have d2 : wr.cell? ⟨ga, i2, none⟩ = some (.int .i64 a2) := cell_later (hbr5.trans (hb6.mono hbr5.size)) (hac i2 a2 hA2)
                          have q2 : (((ts[i2].2 : Nat) : Int) == a1) = true := beq_iff_eq.2 heq
                          have hlc : i2 < A.length := by have := HLe.out; omega
                          generalize ((ts[i2].2 : Nat) : Int) = xa at *
                          clear hcel hac heq hA2
                          go_wp2
                          go_ret
                          exact ⟨rfl, tb6⟩
                        · have q2 : (((ts[i2].2 : Nat) : Int) == a1) = false := beq_eq_false_iff_ne.2 heq
                          have hno2 : NoAt ts a1 (i2 + 1) := fun j h1 h2 => by
                            by_cases hj : j = i2
                            · subst hj; exact heq
                            · exact hno.out j h1 (by omega)
                          have HN2 := Lib.hid hno2
                          generalize ((ts[i2].2 : Nat) : Int) = xa at *
                          clear hcel hac heq hno2 hno
                          go_wp2
                          go_roundw
                          case rel => exact ⟨i2 + 1, by go_num, hb6, by omega, HN2.out⟩
                          case measure => simp [intOf]; omega
                  · have hend : a1 = (s.size : Nat) ∧ a2 = (S.size : Nat) := by
                      rcases HMv.out with ⟨k, h1, h2, h3, h4⟩ | ⟨h3, h4⟩
                      · rw [List.length_map] at h1
                        rw [List.getElem_map] at h3
                        exact absurd h3.symm (hno.out k h1 (by omega))
                      · exact ⟨h3, h4⟩
                    obtain ⟨rfl, rfl⟩ := hend
                    clear hno HMv
                    go_wp2
                    go_ret
                    exact ⟨rfl, tb6⟩
            | ok b1 =>
              cases r2 with
              | error e2 => exact hpr.elim
              | ok b2 =>
                have hcl : CL (Pl false) b1 b2 := CL_weak (fun _ _ _ h => by cases h) hpr
                have hwb := (pres_w HR1.out).2
                go_wp2_with fail
                refine (HP1.out wr tbr).mono ?_
                rintro e w3 ⟨hb3, ⟨p3, n3, c3⟩, rfl, hC1⟩
                have tb3 := tbr.trans (hb3.mono tbr.size)
                dsimp only [SlV.val] at hC1 ⊢
                go_wp2_with fail
                refine (HP2.out w3 (HW.out w3 tb3)).mono ?_
                rintro e w4 ⟨hb4, ⟨p4, n4, c4⟩, rfl, hC2⟩
                have tb4 := tb3.trans (hb4.mono tb3.size)
                replace hC1 := hC1.keeps (Y := Fresh wr w3) (fun g _ hg => hb4.block g hg) hb4.size fun _ h => h
                dsimp only [SlV.val] at hC2 ⊢
                have HS := Lib.hid (same_any false (wCs b1 + 1) _ _ _ _ b1 b2 w4 hC1 hC2 hcl (by omega) (by omega))
                clear hC1 hC2 hcl hwb hpr
                go_wp2_with fail
                refine HS.out.mono ?_
                rintro e w5 ⟨rfl, hd5⟩
                go_wp2
                go_ret
                exact ⟨rfl, tb4.trans ((drw_below hd5).mono tb4.size)⟩
end Go.Proofs.YtgimgkjggaijoaaGreatDoor
