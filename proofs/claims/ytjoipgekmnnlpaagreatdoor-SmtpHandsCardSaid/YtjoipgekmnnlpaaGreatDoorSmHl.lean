/- Walks: chapter 22's law functions: SmtpHello. -/
import Derived.Test.YtjoipgekmnnlpaaGreatDoorSmLs
import Derived.Test.YtjoipgekmnnlpaaGreatDoorSmSm
namespace Go.Proofs.YtjoipgekmnnlpaaGreatDoor
open Go.RowKit Go.Shelf Go.Lib Pk Sm

section
variable {G B : Nat} {w w' V : World} {sb tb most : Nat} {s t : Whl} {R T R' : Roles}
/-- two sessions, apart -/
structure Two (w : World) (sb tb most : Nat) (R T : Roles) (s t : Whl) (V : World) : Prop where
  one : SesAt w.heap.size V sb most s R
  two : SesAt w.heap.size V tb most t T
  below : Below w.heap.size w V
  apart : ∀ k, R k ≠ 0 → T k = 0
theorem Two.swap (h : Two w sb tb most R T s t V) : Two w tb sb most T R t s V := ⟨h.two, h.one, h.below, fun k hk => by
  by_cases e : R k = 0
  · exact e
  · exact absurd (h.apart k e) hk⟩
theorem Two.step {V' : World} {s' : Whl} (h : Two w sb tb most R T s t V) (hs : Stp w.heap.size V sb most R V' s') : ∃ R', Two w sb tb most R' T s' t V' ∧ Ext V R R' ∧ Fr (In R) V V' := by
  obtain ⟨R', s1, s2, s3⟩ := hs
  have hb : Below w.heap.size w V' := Fr.below h.below h.below.size (fun k e => (h.one.bnd k e).1) s3
  have ht : ∀ k, T k ≠ 0 → k < V.heap.size ∧ R k = 0 := fun k e => ⟨(h.two.bnd k e).2, by
    by_cases e' : R k = 0
    · exact e'
    · exact absurd (h.apart k e') e⟩
  refine ⟨R', ⟨s1, h.two.kept s1.ctx (fun k hk e => s3.block k hk (fun e' => e' (ht k e).2)) s3.size, hb, fun k e => ?_⟩, s2, s3⟩
  by_cases e' : T k = 0
  · exact e'
  · obtain ⟨h1, h2⟩ := ht k e'
    exact absurd ((s2 k h1).trans h2) e
theorem Two.below' (h : Two w sb tb most R T s t V) {V' : World} (hb : Below V.heap.size V V') : Two w sb tb most R T s t V' := ⟨h.one.below hb, h.two.below hb, h.below.trans (hb.mono h.below.size), h.apart⟩
/-- the i-th message handed out -/
theorem MailsOut.at {p : Option Addr} {N c : Nat} {ms : List Env} (h : MailsOut B w (.slice p N c) ms) (i : Nat) (hi : i < ms.length) : ∃ g o F q n d Y, p = some ⟨g, o, none⟩ ∧ EnvAt w (fun g => B ≤ g) ⟨F, q, n, d, Y⟩ ms[i] ∧ g < w.heap.size ∧ B ≤ g ∧
    w.cell? ⟨g, o + i * 3, none⟩ = some (.string F) ∧ w.cell? ⟨g, o + i * 3 + 1, none⟩ = some (.slice q n d) ∧ w.cell? ⟨g, o + i * 3 + 2, none⟩ = some (.string Y) := by
  obtain ⟨rs, p', c', e, h1, h2, h3⟩ := h
  obtain ⟨p2, c2, e2, h4, h5⟩ := h3
  have e3 := e.symm.trans e2
  injection e3 with e4 e5 e6
  injection e with e7 e8 e9
  subst e7; subst e4
  have hir : i < rs.length := by omega
  rcases h5 with h5 | ⟨g, o, rfl, hB, hgl, hcl⟩
  · rw [h5] at hir; cases hir
  · have hE := Envs.at h2 i hir hi
    have k := hcl i hir
    obtain ⟨F, q, n, d, Y, hr⟩ : ∃ F q n d Y, rs[i] = ⟨F, q, n, d, Y⟩ := ⟨_, _, _, _, _, rfl⟩
    refine ⟨g, o, F, q, n, d, Y, rfl, ?_, hgl, hB, ?_, ?_, ?_⟩
    · rw [hr] at hE; exact hE
    · exact k 0 (.string F) (by rw [hr]; rfl)
    · exact k 1 (.slice q n d) (by rw [hr]; rfl)
    · exact k 2 (.string Y) (by rw [hr]; rfl)
theorem MailsOut.form {v : Value} {ms : List Env} (h : MailsOut B w v ms) : ∃ p c, v = .slice p ms.length c ∧ ms.length ≤ c := by
  obtain ⟨rs, p', c', e, h1, h2, h3⟩ := h
  obtain ⟨p2, c2, e2, h4, h5⟩ := h3
  have e3 := e.symm.trans e2
  injection e3 with e4 e5 e6
  exact ⟨p', c', by rw [e, h1], by omega⟩
theorem env_rcp {st : Ses} (h : Inv most st) : (envOf st).rcp.length ≤ 1000000 := by
  have := h.few
  unfold envOf
  split
  · show st.to.length ≤ _; omega
  · exact Nat.zero_le _
theorem drain_rcp (hm : most ≤ 65536) (an : Nat → Int) : ∀ (k : Nat) (a : Acc), Gd most a.s → (∀ m ∈ a.mails, m.rcp.length ≤ 1000000) → ∀ m ∈ (drainW most an k a).mails, m.rcp.length ≤ 1000000
  | 0, a, _, h => h
  | k + 1, a, hg, h => by
    by_cases hw : a.s.st.waits = true
    · rw [drain_rnd _ _ _ _ hw]
      refine drain_rcp hm an k _ (rnd_gd hm an hg (Nat.le_refl _)).1 fun m e => ?_
      rcases List.mem_append.1 e with e | e
      · exact h m e
      · rw [List.mem_singleton.1 e]; exact env_rcp hg.inv
    · rw [drain_end _ _ _ _ (.inr (by simpa using hw))]
      exact h
theorem drain_cnt (most : Nat) (an : Nat → Int) : ∀ (k : Nat) (a : Acc), (drainW most an k a).mails.length ≤ a.mails.length + k
  | 0, a => Nat.le_refl _
  | k + 1, a => by
    by_cases hw : a.s.st.waits = true
    · rw [drain_rnd _ _ _ _ hw]
      refine Nat.le_trans (drain_cnt most an k _) ?_
      show (a.mails ++ [envOf a.s.st]).length + k ≤ _
      rw [List.length_append, List.length_singleton]
      omega
    · rw [drain_end _ _ _ _ (.inr (by simpa using hw))]
      omega
/-- the first drain of SmtpHello -/
structure HlI (w wr : World) (sb tb most : Nat) (R T : Roles) (a : Acc) : Prop where
  two : Two w sb tb most R T a.s begin0 wr
  gd : Gd most a.s
  wt : a.out.length + wt a.s ≤ 6000000
def an1 : Nat → Int := fun _ => 1
theorem rep250 : repW 250 = [50, 53, 48, 32, 79, 75, 13, 10] := by decide +kernel
theorem str_lit {x : ByteArray} (h : x ≠ ⟨#[]⟩) : x.toList.isEmpty = false ∧ (x.toList = []) = False ∧ 0 < x.size := by
  have hx : 0 < x.size := by
    rcases Nat.eq_zero_or_pos x.size with e | e
    · exact absurd (by cases x with | mk d => simp [ByteArray.size] at e; simp [e]) h
    · exact e
  have hl : x.data.toList.length = x.size := rfl
  refine ⟨?_, ?_, hx⟩
  · rw [Lib.toList_data]
    cases hz : x.data.toList with
    | nil => rw [hz] at hl; simp at hl; omega
    | cons _ _ => rfl
  · rw [Lib.toList_data, eq_iff_iff, iff_false]
    intro e; rw [e] at hl; simp at hl; omega
theorem last_is {x : ByteArray} (h : x.size - 1 < x.size) (e : x[x.size - 1] = 10) : x.data.toList.getLast? = some 10 := by
  rw [List.getLast?_eq_getElem?]
  have hl : x.data.toList.length = x.size := rfl
  rw [hl, List.getElem?_eq_getElem (by omega)]
  congr 1
set_option maxHeartbeats 4000000 in
set_option maxRecDepth 100000 in
theorem smtpHello_any (m0 : Int) (x y : ByteArray) (av : Value) (ans : List Int) (hC : Ctx G w) (hA : IntIn .i64 w.heap.size w av ans) : Calls Tryz.prog 5 #[.int .i64 m0, .string x, .string y, av] w fun e w' => e = .returned (.bool true) ∧ Below w.heap.size w w' := by
  have HC := Lib.hid (Ctx.self hC)
  have HS := Lib.hid (small_any w hC)
  have HA := Lib.hid hA
  clear hC hA
  go_enter Tryz.func5, Tryz.ntmps5
  go_wp2_with fail
  refine HS.out.mono ?_
  rintro e w1 ⟨rfl, hb1⟩
  have HB1 := Lib.hid hb1
  have HN1 := Lib.hid (ses_new m0 (HC.out.below hb1))
  by_cases hx3 : 3000 < x.size
  · have u1 : decide (3000 < (x.size : Int)) = true := decide_eq_true (by omega)
    clear hb1
    go_wp2
    go_ret
    exact ⟨rfl, HB1.out⟩
  · have u1 : decide (3000 < (x.size : Int)) = false := decide_eq_false (by omega)
    by_cases hy3 : 3000 < y.size
    · have u2 : decide (3000 < (y.size : Int)) = true := decide_eq_true (by omega)
      clear hb1
      go_wp2
      go_ret
      exact ⟨rfl, HB1.out⟩
    · have u2 : decide (3000 < (y.size : Int)) = false := decide_eq_false (by omega)
      clear hb1
      by_cases hx0 : x = ⟨#[]⟩
      · have e1 : x.toList.isEmpty = true := by rw [hx0, Lib.toList_data]; rfl
        have e2 : (x.toList = []) = True := by rw [hx0, Lib.toList_data]; exact eq_true rfl
        have hxx : x.data.toList = [] ∨ x.data.toList.getLast? = some 10 := .inl (by rw [hx0])
        clear hx0
        have HX := Lib.hid (And.intro hxx (And.intro hx3 hy3))
        clear hxx hx3 hy3
        go_wp2_with fail
        refine HN1.out.mono ?_
        rintro e w2 ⟨sb, R2, rfl, hs2, hR2, hb2⟩
        have HN2 := Lib.hid (ses_new m0 hs2.ctx)
        have H2 := Lib.hid (And.intro hs2 (And.intro hR2 hb2))
        clear hs2 hR2 hb2
        go_wp2_with fail
        refine HN2.out.mono ?_
        rintro e w3 ⟨tb, T3, rfl, hs3, hR3, hb3⟩
        have h3 : Two w sb tb (clampM m0) R2 T3 begin0 begin0 w3 := ⟨H2.out.1.below hb3, hs3, HB1.out.trans ((H2.out.2.2.mono HB1.out.size).trans (hb3.mono (Nat.le_trans HB1.out.size H2.out.2.2.size))), fun k e => by
          by_cases e' : T3 k = 0
          · exact e'
          · have := hR3 k e'; have := (H2.out.1.bnd k e).2; omega⟩
        have hm := (clampM_le m0).2
        clear hs3 hR3 hb3 H2 HN1 HN2
        generalize clampM m0 = most at *
        obtain ⟨FA, hFA⟩ : ∃ FA, FA = feedW most begin0 x.data.toList := ⟨_, rfl⟩
        have hxl : x.data.toList.length = x.size := rfl
        have hF1 := feed_any h3.one hm (gd0 most) x (by have := HX.out.2.1; omega) (by have := HX.out.2.1; have e0 : Sm.wt begin0 = 0 := rfl; omega)
        have hgA := (gd0 most).feed x.data.toList
        have hwA := feed_wt hm (gd0 most) x.data.toList
        rw [← hFA] at hF1 hgA hwA
        obtain ⟨F, hF⟩ : ∃ F, F = drainW most an1 3100 ⟨FA.1, FA.2, []⟩ := ⟨_, rfl⟩
        have hFc : F = chunkW most an1 3100 ⟨begin0, [], []⟩ x.data.toList := by rw [hF, hFA]; rfl
        have hD0 : Hid (drainW most an1 3100 ⟨FA.1, FA.2, []⟩ = F) := hF.symm
        have HW := Lib.hid (And.intro hm (And.intro hgA (And.intro hwA (And.intro hFc hxl))))
        have H3 := Lib.hid h3
        obtain ⟨O1, hO1⟩ : ∃ O1, O1 = bt FA.2 := ⟨_, rfl⟩
        unfold FedIs at hF1
        rw [← hO1] at hF1
        have HF1 := Lib.hid hF1
        clear hm hFA hxl hF1 hgA hwA hF hFc h3 hO1
        go_wp2_with fail
        refine HF1.out.mono ?_
        rintro e w4 ⟨rfl, hst⟩
        obtain ⟨R4, h4, -, -⟩ := H3.out.step hst
        have hI0 : Hid (HlI w w4 sb tb most R4 T3 ⟨FA.1, FA.2, []⟩) := ⟨h4, HW.out.2.1, by have h9 := HW.out.2.2.1; have h8 := HX.out.2.1; have h7 := HW.out.2.2.2.2; have e0 : Sm.wt begin0 = 0 := rfl; show FA.2.length + Sm.wt FA.1 ≤ _; omega⟩
        clear hst h4
        go_wp2_with fail
        go_loopg [13, 14] 3100 (fun g wv kv wr => ∃ (k : Nat) (a : Acc) (R : Roles), k + g = 3100 ∧ kv = .int .i64 k ∧ wv = .bool a.s.st.waits ∧ Hid (HlI w wr sb tb most R T3 a) ∧ Hid (drainW most an1 g a = F))
        case atStart => exact ⟨0, _, R4, rfl, rfl, rfl, hI0, hD0⟩
        case round =>
          clear hI0 hD0 H3 HF1
          obtain ⟨k, a, R, hk, rfl, rfl, hI, hD⟩ := hrel
          by_cases hk1 : k < 3100
          · have u1 : decide ((k : Int) < 3100) = true := decide_eq_true (by omega)
            cases hw : a.s.st.waits with
            | false =>
              have hFa : F = a := by rw [← hD.out]; exact drain_end _ _ _ _ (.inr hw)
              have HFa := Lib.hid hFa
              clear hFa
              obtain ⟨FH, hFH⟩ : ∃ FH, FH = feedW most a.s heloX := ⟨_, rfl⟩
              have hF2 := feed_any (chunk := ⟨heloX.toArray⟩) hI.out.two.one HW.out.1 hI.out.gd (by decide) (by have h9 := hI.out.wt; have e0 : (ByteArray.mk heloX.toArray).size = 8 := rfl; omega)
              replace hF2 : Calls Tryz.prog 14 #[.pointer (some ⟨sb, 0, none⟩), .string ⟨#[72, 69, 76, 79, 32, 120, 13, 10]⟩] wr (FedIs w.heap.size wr sb most R (feedW most a.s heloX)) := hF2
              rw [← hFH] at hF2
              obtain ⟨O2, hO2⟩ : ∃ O2, O2 = bt FH.2 := ⟨_, rfl⟩
              unfold FedIs at hF2
              rw [← hO2] at hF2
              have hgH := hI.out.gd.feed heloX
              have hwH := feed_wt HW.out.1 hI.out.gd heloX
              have hwI := hI.out.wt
              rw [← hFH] at hgH hwH
              have HH := Lib.hid (And.intro hFH (And.intro hO2 (And.intro hgH (show Sm.wt FH.1 ≤ 6100000 from by have e0 : heloX.length = 8 := rfl; omega))))
              have HF2 := Lib.hid hF2
              obtain ⟨TH, hTH⟩ : ∃ TH, TH = feedW most begin0 heloX := ⟨_, rfl⟩
              have hgT := (gd0 most).feed heloX
              have hwT := feed_wt HW.out.1 (gd0 most) heloX
              rw [← hTH] at hgT hwT
              have HT := Lib.hid (And.intro hTH (And.intro hgT (show Sm.wt TH.1 ≤ 6100000 from by have e0 : heloX.length = 8 := rfl; have e1 : Sm.wt begin0 = 0 := rfl; omega)))
              clear hFH hF2 hO2 hgH hwH hwI hTH hgT hwT hk
              go_wp2_with fail
              refine HF2.out.mono ?_
              rintro e w7 ⟨rfl, hst⟩
              obtain ⟨R7, h7, -, -⟩ := hI.out.two.step hst
              have HF3 := Lib.hid (fedE (chunk := ⟨heloX.toArray⟩) h7.two HW.out.1 (gd0 most) (by decide) (by have e0 : (ByteArray.mk heloX.toArray).size = 8 := rfl; have e1 : Sm.wt begin0 = 0 := rfl; omega) (p := TH) HT.out.1.symm (o := ⟨#[50, 53, 48, 32, 79, 75, 13, 10]⟩) (by rw [HT.out.1, feed_helo0, rep250]; rfl) (b := false) (by rw [HT.out.1, feed_helo0]; rfl))
              have H7 := Lib.hid h7.swap
              clear hst h7
              go_wp2_with fail
              refine HF3.out.mono ?_
              rintro e w8 ⟨rfl, hst⟩
              obtain ⟨T8, h8, -, -⟩ := H7.out.step hst
              have H8 := Lib.hid h8.swap
              clear hst h8
              by_cases hab : O2 = ⟨#[50, 53, 48, 32, 79, 75, 13, 10]⟩
              · have hlw := hello_law most an1 (anL ans) 3100 x.data.toList y.data.toList HX.out.1 (by have := HX.out.2.1; have e0 : x.data.toList.length = x.size := rfl; omega) (by have := HX.out.2.2; have e0 : y.data.toList.length = y.size := rfl; omega)
                simp only [← HW.out.2.2.2.1] at hlw
                rw [HFa.out, ← HH.out.1, ← HT.out.1] at hlw
                have hlw := hlw (by have h9 := HH.out.2.1; rw [hab] at h9; have h9 := congrArg (fun z : ByteArray => z.data.toList) h9; rw [rep250]; exact h9.symm)
                subst hab
                obtain ⟨A1, hA1⟩ : ∃ A1, A1 = chunkW most (anL ans) 3100 ⟨FH.1, [], []⟩ y.data.toList := ⟨_, rfl⟩
                obtain ⟨A2, hA2⟩ : ∃ A2, A2 = chunkW most (anL ans) 3100 ⟨TH.1, [], []⟩ y.data.toList := ⟨_, rfl⟩
                rw [← hA1, ← hA2] at hlw
                obtain ⟨l1, l2, l3⟩ := hlw
                have hIn : ∀ V, Below w.heap.size w V → IntIn .i64 w.heap.size V av ans := fun V hb => HA.out.keeps (fun g hg => hb.block g hg) (Nat.le_refl _)
                have hD1 := drained_any FH.1 y av ans H8.out.one HW.out.1 HH.out.2.2.1 (by have := HX.out.2.2; omega) (by have := HH.out.2.2.2; omega) (hIn _ H8.out.below)
                have hrc := drain_rcp HW.out.1 (anL ans) 3100 ⟨(feedW most FH.1 y.data.toList).1, [] ++ (feedW most FH.1 y.data.toList).2, []⟩ (HH.out.2.2.1.feed _) (fun m e => by cases e)
                change ∀ m ∈ (chunkW most (anL ans) 3100 ⟨FH.1, [], []⟩ y.data.toList).mails, m.rcp.length ≤ 1000000 at hrc
                rw [← hA1] at hD1 hrc
                obtain ⟨U, hU⟩ : ∃ U, U = bt A1.out := ⟨_, rfl⟩
                obtain ⟨M, hM⟩ : ∃ M, M = A1.mails := ⟨_, rfl⟩
                unfold DrnIs at hD1
                rw [← hU, ← hM] at hD1
                have HL := Lib.hid (And.intro l1 (And.intro l2 (And.intro l3 (And.intro hA2 (And.intro hU (And.intro hM (And.intro hIn (And.intro (show ∀ m ∈ M, m.rcp.length ≤ 1000000 from by rw [hM]; exact hrc) (show M.length ≤ 1000000 from by rw [hM, hA1]; exact Nat.le_trans (drain_cnt _ _ _ _) (by show 0 + 3100 ≤ 1000000; decide))))))))))
                have HD1 := Lib.hid hD1
                clear l1 l2 l3 hA1 hA2 hIn hD1 hU hM hrc
                go_wp2_with fail
                refine HD1.out.mono ?_
                rintro e w9 ⟨mv1, rfl, hm1, hst⟩
                obtain ⟨R9, h9, -, -⟩ := H8.out.step hst
                have hbT : ∀ k, T8 k ≠ 0 → k < w8.heap.size := fun k e => (H8.out.two.bnd k e).2
                have hD2 := drained_any TH.1 y av ans h9.two HW.out.1 HT.out.2.1 (by have := HX.out.2.2; omega) (by have := HT.out.2.2; omega) (HL.out.2.2.2.2.2.2.1 _ h9.below)
                rw [← HL.out.2.2.2.1] at hD2
                unfold DrnIs at hD2
                rw [← HL.out.1, ← HL.out.2.1, ← HL.out.2.2.2.2.1, ← HL.out.2.2.2.2.2.1] at hD2
                obtain ⟨p1, c1, rfl, hc1⟩ := hm1.form
                have HD2 := Lib.hid hD2
                have H9 := Lib.hid (And.intro h9.swap (And.intro hm1 (And.intro hbT (Fr.size hst.choose_spec.2.2))))
                clear h9 hm1 hbT hst hD2
                go_wp2_with fail
                refine HD2.out.mono ?_
                rintro e w10 ⟨mv2, rfl, hm2, hst⟩
                obtain ⟨p2, c2, rfl, hc2⟩ := hm2.form
                obtain ⟨T10, h10, x10, f10⟩ := H9.out.1.step hst
                have hm1 : MailsOut w8.heap.size w10 (.slice p1 M.length c1) M := H9.out.2.1.keeps (fun g hg hgl => f10.block g hgl (fun e => by have := H9.out.2.2.1 g e; omega)) f10.size
                obtain ⟨V, hV⟩ : ∃ V, V = A1.s.st.over := ⟨_, rfl⟩
                have hO1 := ses_over h10.two
                have hO2 := ses_over h10.one
                rw [← HL.out.2.2.1, ← hV] at hO2
                rw [← hV] at hO1
                have HO1 := Lib.hid hO1
                have HO2 := Lib.hid hO2
                have HM := Lib.hid (And.intro hm1 (And.intro hm2 h10.below))
                clear hO1 hO2 hV hm1 hm2 h10 x10 f10 hst
                go_wp2_with fail
                refine HO1.out.mono ?_
                rintro e wz ⟨rfl, rfl⟩
                go_wp2_with fail
                refine HO2.out.mono ?_
                rintro e wy ⟨rfl, rfl⟩
                have HN := Lib.hid (And.intro HL.out.2.2.2.2.2.2.2.2 HL.out.2.2.2.2.2.2.2.1)
                go_wp2_with fail
                go_loopg [23] M.length (fun g iv wr => ∃ i : Nat, i + g = M.length ∧ iv = .int .i64 i ∧ Hid (Below wy.heap.size wy wr))
                case atStart => exact ⟨0, by omega, rfl, Below.refl _ _⟩
                case round =>
                  obtain ⟨i, hi, rfl, hbw⟩ := hrel
                  by_cases hl : i < M.length
                  · have u1 : decide ((i : Int) < (M.length : Int)) = true := decide_eq_true (by omega)
                    have u3 : (i : Int) < (M.length : Int) := by omega
                    have u6 : IntKind.i64.wrap ((i : Int) + 1) = (i : Int) + 1 := w64 rfl (by omega) (by have := HN.out.1; omega)
                    obtain ⟨g1, o1, F1, q1, n1, d1, Y1, rfl, E1, -, -, k0, k1, k2⟩ := HM.out.1.at i hl
                    obtain ⟨g2, o2, F2, q2, n2, d2, Y2, rfl, E2, -, -, k3, k4, k5⟩ := HM.out.2.1.at i hl
                    have hbd : Below wy.heap.size wy wr.drew := hbw.out.drew
                    replace E1 := E1.keepsB (Z := fun _ => True) (fun g _ hgl => hbd.block g hgl) hbd.size (fun _ _ _ => trivial)
                    replace E2 := E2.keepsB (Z := fun _ => True) (fun g _ hgl => hbd.block g hgl) hbd.size (fun _ _ _ => trivial)
                    have hsm : Calls Tryz.prog 18 #[.agg #[.string F1, .slice q1 n1 d1, .string Y1], .agg #[.string F2, .slice q2 n2 d2, .string Y2]] wr.drew fun e w' => e = .returned (.bool true) ∧ Below wr.drew.heap.size wr.drew w' := same_any ⟨F1, q1, n1, d1, Y1⟩ ⟨F2, q2, n2, d2, Y2⟩ M[i] E1 E2 (HN.out.2 _ (List.getElem_mem hl))
                    replace k0 := cell_later hbd k0
                    replace k1 := cell_later hbd k1
                    replace k2 := cell_later hbd k2
                    replace k3 := cell_later hbd k3
                    replace k4 := cell_later hbd k4
                    replace k5 := cell_later hbd k5
                    have HSm := Lib.hid (And.intro hsm (And.intro hi (And.intro hl hbd)))
                    have hS0 : Hid ((wr.drew.cell? ⟨g1, o1 + i * 3, none⟩ = some (.string F1) ∧ wr.drew.cell? ⟨g1, o1 + i * 3 + 1, none⟩ = some (.slice q1 n1 d1) ∧ wr.drew.cell? ⟨g1, o1 + i * 3 + 2, none⟩ = some (.string Y1)) ∧ wr.drew.cell? ⟨g2, o2 + i * 3, none⟩ = some (.string F2) ∧ wr.drew.cell? ⟨g2, o2 + i * 3 + 1, none⟩ = some (.slice q2 n2 d2) ∧ wr.drew.cell? ⟨g2, o2 + i * 3 + 2, none⟩ = some (.string Y2)) := ⟨⟨k0, k1, k2⟩, k3, k4, k5⟩
                    clear hsm E1 E2 hbd hi hl k0 k1 k2 k3 k4 k5
                    go_wp2_with fail
                    refine wp_region_heldO (fun V => (V.cell? ⟨g1, o1 + i * 3, none⟩ = some (.string F1) ∧ V.cell? ⟨g1, o1 + i * 3 + 1, none⟩ = some (.slice q1 n1 d1) ∧ V.cell? ⟨g1, o1 + i * 3 + 2, none⟩ = some (.string Y1)) ∧ V.cell? ⟨g2, o2 + i * 3, none⟩ = some (.string F2) ∧ V.cell? ⟨g2, o2 + i * 3 + 1, none⟩ = some (.slice q2 n2 d2) ∧ V.cell? ⟨g2, o2 + i * 3 + 2, none⟩ = some (.string Y2)) 10 (by kernel_rfl) rfl hS0.out (fun hHeld => ?_)
                    refine takeO (v := ?_) 0 rfl (by kernel_rfl) (by kernel_rfl) (by kernel_rfl) (by rfl) ?_ hHeld ?_
                    rotate_left
                    · intro w hSw
                      obtain ⟨⟨hSw0, hSw1, hSw2⟩, hSw3, hSw4, hSw5⟩ := hSw
                      go_simp
                      first | done | with_reducible rfl
                    simp only [Act.put, List.setIfInBounds_toArray, List.set_cons_zero, List.set_cons_succ]
                    refine takeO (v := ?_) 1 rfl (by kernel_rfl) (by kernel_rfl) (by kernel_rfl) (by rfl) ?_ hHeld ?_
                    rotate_left
                    · intro w hSw
                      obtain ⟨⟨hSw0, hSw1, hSw2⟩, hSw3, hSw4, hSw5⟩ := hSw
                      go_simp
                      first | done | with_reducible rfl
                    simp only [Act.put, List.setIfInBounds_toArray, List.set_cons_zero, List.set_cons_succ]
                    refine takeO (v := ?_) 2 rfl (by kernel_rfl) (by kernel_rfl) (by kernel_rfl) (by rfl) ?_ hHeld ?_
                    rotate_left
                    · intro w hSw
                      obtain ⟨⟨hSw0, hSw1, hSw2⟩, hSw3, hSw4, hSw5⟩ := hSw
                      go_simp
                      first | done | with_reducible rfl
                    simp only [Act.put, List.setIfInBounds_toArray, List.set_cons_zero, List.set_cons_succ]
                    refine takeO (v := ?_) 3 rfl (by kernel_rfl) (by kernel_rfl) (by kernel_rfl) (by rfl) ?_ hHeld ?_
                    rotate_left
                    · intro w hSw
                      obtain ⟨⟨hSw0, hSw1, hSw2⟩, hSw3, hSw4, hSw5⟩ := hSw
                      go_simp
                      first | done | with_reducible rfl
                    simp only [Act.put, List.setIfInBounds_toArray, List.set_cons_zero, List.set_cons_succ]
                    refine takeO (v := ?_) 4 rfl (by kernel_rfl) (by kernel_rfl) (by kernel_rfl) (by rfl) ?_ hHeld ?_
                    rotate_left
                    · intro w hSw
                      obtain ⟨⟨hSw0, hSw1, hSw2⟩, hSw3, hSw4, hSw5⟩ := hSw
                      go_simp
                      first | done | with_reducible rfl
                    simp only [Act.put, List.setIfInBounds_toArray, List.set_cons_zero, List.set_cons_succ]
                    refine takeO (v := ?_) 5 rfl (by kernel_rfl) (by kernel_rfl) (by kernel_rfl) (by rfl) ?_ hHeld ?_
                    rotate_left
                    · intro w hSw
                      obtain ⟨⟨hSw0, hSw1, hSw2⟩, hSw3, hSw4, hSw5⟩ := hSw
                      go_simp
                      first | done | with_reducible rfl
                    simp only [Act.put, List.setIfInBounds_toArray, List.set_cons_zero, List.set_cons_succ]
                    refine takeO (v := ?_) 6 rfl (by kernel_rfl) (by kernel_rfl) (by kernel_rfl) (by rfl) ?_ hHeld ?_
                    rotate_left
                    · intro w hSw
                      obtain ⟨⟨hSw0, hSw1, hSw2⟩, hSw3, hSw4, hSw5⟩ := hSw
                      go_simp
                      first | done | with_reducible rfl
                    simp only [Act.put, List.setIfInBounds_toArray, List.set_cons_zero, List.set_cons_succ]
                    refine takeO (v := ?_) 7 rfl (by kernel_rfl) (by kernel_rfl) (by kernel_rfl) (by rfl) ?_ hHeld ?_
                    rotate_left
                    · intro w hSw
                      obtain ⟨⟨hSw0, hSw1, hSw2⟩, hSw3, hSw4, hSw5⟩ := hSw
                      go_simp
                      first | done | with_reducible rfl
                    simp only [Act.put, List.setIfInBounds_toArray, List.set_cons_zero, List.set_cons_succ]
                    refine callO (f := 18) (args := #[.agg #[.string F1, .slice q1 n1 d1, .string Y1], .agg #[.string F2, .slice q2 n2 d2, .string Y2]]) 8 rfl (by kernel_rfl) (by rfl) (by go_simp) (HSm.out.1.mono ?_)
                    rintro e w11 ⟨rfl, hbs⟩
                    have hS9 : (w11.cell? ⟨g1, o1 + i * 3, none⟩ = some (.string F1) ∧ w11.cell? ⟨g1, o1 + i * 3 + 1, none⟩ = some (.slice q1 n1 d1) ∧ w11.cell? ⟨g1, o1 + i * 3 + 2, none⟩ = some (.string Y1)) ∧ w11.cell? ⟨g2, o2 + i * 3, none⟩ = some (.string F2) ∧ w11.cell? ⟨g2, o2 + i * 3 + 1, none⟩ = some (.slice q2 n2 d2) ∧ w11.cell? ⟨g2, o2 + i * 3 + 2, none⟩ = some (.string Y2) := by
                      obtain ⟨⟨k0, k1, k2⟩, k3, k4, k5⟩ := hHeld
                      exact ⟨⟨cell_later hbs k0, cell_later hbs k1, cell_later hbs k2⟩, cell_later hbs k3, cell_later hbs k4, cell_later hbs k5⟩
                    have HBs := Lib.hid (HSm.out.2.2.2.trans (hbs.mono HSm.out.2.2.2.size))
                    clear hbs hHeld
                    refine ⟨_, rfl, hS9, ?_⟩
                    simp only [Act.put, List.setIfInBounds_toArray, List.set_cons_zero, List.set_cons_succ]
                    refine stepO (w' := w11) (v := .bool false) 9 rfl (by kernel_rfl) (by rfl) (by go_simp) hS9 ?_
                    simp only [Act.put, List.setIfInBounds_toArray, List.set_cons_zero, List.set_cons_succ]
                    refine doneO (by kernel_rfl) ?_
                    clear hS9 hS0
                    go_wp2
                    go_roundg (M.length - (i + 1))
                    case rel => exact ⟨i + 1, by have := HSm.out.2.2.1; omega, rfl, HBs.out⟩
                    case measure => have := HSm.out; omega
                  · have u1 : decide ((i : Int) < (M.length : Int)) = false := decide_eq_false (by omega)
                    have u2 : decide (i < M.length) = false := decide_eq_false hl
                    clear hi hl
                    go_wp2
                    go_ret
                    exact ⟨rfl, HM.out.2.2.trans (hbw.out.mono HM.out.2.2.size)⟩
              · have hab2 : (O2.toList = [50, 53, 48, 32, 79, 75, 13, 10]) = False := by
                  rw [eq_iff_iff, iff_false]
                  intro e
                  rw [Lib.toList_data] at e
                  exact hab (by cases O2 with | mk d => cases d with | mk l => exact congrArg (fun z => ByteArray.mk (Array.mk z)) e)
                have hab3 : (O2.toList == [50, 53, 48, 32, 79, 75, 13, 10]) = false := by rw [beq_eq_false_iff_ne]; intro e; rw [hab2] at e; exact e
                clear hab
                go_wp2
                go_ret
                exact ⟨rfl, H8.out.below⟩
            | true =>
              have u6 : IntKind.i64.wrap ((k : Int) + 1) = (k : Int) + 1 := w64 rfl (by omega) (by omega)
              have HK := Lib.hid (And.intro hk (And.intro hk1 hw))
              clear hk hk1 hw
              obtain ⟨AW, hAW⟩ : ∃ AW, AW = answerW a.s.st 1 := ⟨_, rfl⟩
              obtain ⟨FW, hFW⟩ : ∃ FW, FW = feedW most ⟨AW.1, a.s.rest, a.s.kept⟩ [] := ⟨_, rfl⟩
              have hrnd : rndW most an1 a = ⟨FW.1, a.out ++ AW.2 ++ FW.2, a.mails ++ [envOf a.s.st]⟩ := by unfold rndW; rw [hFW, hAW]; rfl
              obtain ⟨r1, r2⟩ := rnd_gd HW.out.1 an1 hI.out.gd hI.out.wt
              rw [hrnd] at r1 r2
              have hAn := ses_answer hI.out.two.one 1
              have hga := hI.out.gd.answer 1
              have hwa := answer_wt' (s := a.s) 1
              rw [← hAW] at hAn hga hwa
              have hwi := hI.out.wt
              have hw2 : Sm.wt ⟨AW.1, a.s.rest, a.s.kept⟩ ≤ 50000000 := by have h9 : AW.2.length + Sm.wt ⟨AW.1, a.s.rest, a.s.kept⟩ ≤ Sm.wt a.s := hwa; omega
              obtain ⟨TA, hTA⟩ : ∃ TA, TA = bt AW.2 := ⟨_, rfl⟩
              obtain ⟨TF, hTF⟩ : ∃ TF, TF = bt FW.2 := ⟨_, rfl⟩
              unfold StpT at hAn
              rw [← hTA] at hAn
              have HX5 := Lib.hid (And.intro hga (And.intro hrnd (And.intro r1 (And.intro r2 (And.intro hFW.symm (And.intro hTF (And.intro hw2 (And.intro hAW hTA))))))))
              have HAn := Lib.hid hAn
              clear hAn hga hrnd r1 r2 hFW hTF hTA hwa hwi hw2 hAW
              go_wp2_with fail
              refine HAn.out.mono ?_
              rintro e w5 ⟨rfl, hst⟩
              obtain ⟨R5, h5, -, -⟩ := hI.out.two.step hst
              have hF5 := feed_any (chunk := ⟨#[]⟩) h5.one HW.out.1 HX5.out.1 (by decide) (by have h9 := HX5.out.2.2.2.2.2.2.1; show Sm.wt ⟨AW.1, a.s.rest, a.s.kept⟩ + 2000 * 0 ≤ _; omega)
              have hF5' : Calls Tryz.prog 14 #[.pointer (some ⟨sb, 0, none⟩), .string ⟨#[]⟩] w5 (FedIs w.heap.size w5 sb most R5 FW) := by
                have e9 := HX5.out.2.2.2.2.1
                rw [← e9]; exact hF5
              unfold FedIs at hF5'
              rw [← HX5.out.2.2.2.2.2.1] at hF5'
              have HF5 := Lib.hid hF5'
              have H5 := Lib.hid h5
              clear hF5 hF5' hst h5
              go_wp2_with fail
              refine HF5.out.mono ?_
              rintro e w6 ⟨rfl, hst⟩
              obtain ⟨R6, h6, -, -⟩ := H5.out.step hst
              have hI6 : Hid (HlI w w6 sb tb most R6 T3 ⟨FW.1, a.out ++ AW.2 ++ FW.2, a.mails ++ [envOf a.s.st]⟩) := ⟨h6, HX5.out.2.2.1, HX5.out.2.2.2.1⟩
              clear hst h6
              go_wp2
              go_roundg (3100 - (k + 1))
              case rel =>
                refine ⟨k + 1, ⟨FW.1, a.out ++ AW.2 ++ FW.2, a.mails ++ [envOf a.s.st]⟩, R6, by have := HK.out.2.1; omega, rfl, rfl, hI6, ?_⟩
                rw [← HX5.out.2.1]
                have h9 := hD.out
                have hg9 : gk = (3100 - (k + 1)) + 1 := by have := HK.out; omega
                rw [hg9, drain_rnd _ _ _ _ HK.out.2.2] at h9
                exact h9
              case measure => have := HK.out; omega
          · have u1 : decide ((k : Int) < 3100) = false := decide_eq_false (by omega)
            have hFa : F = a := by rw [← hD.out]; exact drain_end _ _ _ _ (.inl (by omega))
            have HFa := Lib.hid hFa
            clear hFa
            obtain ⟨FH, hFH⟩ : ∃ FH, FH = feedW most a.s heloX := ⟨_, rfl⟩
            have hF2 := feed_any (chunk := ⟨heloX.toArray⟩) hI.out.two.one HW.out.1 hI.out.gd (by decide) (by have h9 := hI.out.wt; have e0 : (ByteArray.mk heloX.toArray).size = 8 := rfl; omega)
            replace hF2 : Calls Tryz.prog 14 #[.pointer (some ⟨sb, 0, none⟩), .string ⟨#[72, 69, 76, 79, 32, 120, 13, 10]⟩] wr (FedIs w.heap.size wr sb most R (feedW most a.s heloX)) := hF2
            rw [← hFH] at hF2
            obtain ⟨O2, hO2⟩ : ∃ O2, O2 = bt FH.2 := ⟨_, rfl⟩
            unfold FedIs at hF2
            rw [← hO2] at hF2
            have hgH := hI.out.gd.feed heloX
            have hwH := feed_wt HW.out.1 hI.out.gd heloX
            have hwI := hI.out.wt
            rw [← hFH] at hgH hwH
            have HH := Lib.hid (And.intro hFH (And.intro hO2 (And.intro hgH (show Sm.wt FH.1 ≤ 6100000 from by have e0 : heloX.length = 8 := rfl; omega))))
            have HF2 := Lib.hid hF2
            obtain ⟨TH, hTH⟩ : ∃ TH, TH = feedW most begin0 heloX := ⟨_, rfl⟩
            have hgT := (gd0 most).feed heloX
            have hwT := feed_wt HW.out.1 (gd0 most) heloX
            rw [← hTH] at hgT hwT
            have HT := Lib.hid (And.intro hTH (And.intro hgT (show Sm.wt TH.1 ≤ 6100000 from by have e0 : heloX.length = 8 := rfl; have e1 : Sm.wt begin0 = 0 := rfl; omega)))
            clear hFH hF2 hO2 hgH hwH hwI hTH hgT hwT hk
            go_wp2_with fail
            refine HF2.out.mono ?_
            rintro e w7 ⟨rfl, hst⟩
            obtain ⟨R7, h7, -, -⟩ := hI.out.two.step hst
            have HF3 := Lib.hid (fedE (chunk := ⟨heloX.toArray⟩) h7.two HW.out.1 (gd0 most) (by decide) (by have e0 : (ByteArray.mk heloX.toArray).size = 8 := rfl; have e1 : Sm.wt begin0 = 0 := rfl; omega) (p := TH) HT.out.1.symm (o := ⟨#[50, 53, 48, 32, 79, 75, 13, 10]⟩) (by rw [HT.out.1, feed_helo0, rep250]; rfl) (b := false) (by rw [HT.out.1, feed_helo0]; rfl))
            have H7 := Lib.hid h7.swap
            clear hst h7
            go_wp2_with fail
            refine HF3.out.mono ?_
            rintro e w8 ⟨rfl, hst⟩
            obtain ⟨T8, h8, -, -⟩ := H7.out.step hst
            have H8 := Lib.hid h8.swap
            clear hst h8
            by_cases hab : O2 = ⟨#[50, 53, 48, 32, 79, 75, 13, 10]⟩
            · have hlw := hello_law most an1 (anL ans) 3100 x.data.toList y.data.toList HX.out.1 (by have := HX.out.2.1; have e0 : x.data.toList.length = x.size := rfl; omega) (by have := HX.out.2.2; have e0 : y.data.toList.length = y.size := rfl; omega)
              simp only [← HW.out.2.2.2.1] at hlw
              rw [HFa.out, ← HH.out.1, ← HT.out.1] at hlw
              have hlw := hlw (by have h9 := HH.out.2.1; rw [hab] at h9; have h9 := congrArg (fun z : ByteArray => z.data.toList) h9; rw [rep250]; exact h9.symm)
              subst hab
              obtain ⟨A1, hA1⟩ : ∃ A1, A1 = chunkW most (anL ans) 3100 ⟨FH.1, [], []⟩ y.data.toList := ⟨_, rfl⟩
              obtain ⟨A2, hA2⟩ : ∃ A2, A2 = chunkW most (anL ans) 3100 ⟨TH.1, [], []⟩ y.data.toList := ⟨_, rfl⟩
              rw [← hA1, ← hA2] at hlw
              obtain ⟨l1, l2, l3⟩ := hlw
              have hIn : ∀ V, Below w.heap.size w V → IntIn .i64 w.heap.size V av ans := fun V hb => HA.out.keeps (fun g hg => hb.block g hg) (Nat.le_refl _)
              have hD1 := drained_any FH.1 y av ans H8.out.one HW.out.1 HH.out.2.2.1 (by have := HX.out.2.2; omega) (by have := HH.out.2.2.2; omega) (hIn _ H8.out.below)
              have hrc := drain_rcp HW.out.1 (anL ans) 3100 ⟨(feedW most FH.1 y.data.toList).1, [] ++ (feedW most FH.1 y.data.toList).2, []⟩ (HH.out.2.2.1.feed _) (fun m e => by cases e)
              change ∀ m ∈ (chunkW most (anL ans) 3100 ⟨FH.1, [], []⟩ y.data.toList).mails, m.rcp.length ≤ 1000000 at hrc
              rw [← hA1] at hD1 hrc
              obtain ⟨U, hU⟩ : ∃ U, U = bt A1.out := ⟨_, rfl⟩
              obtain ⟨M, hM⟩ : ∃ M, M = A1.mails := ⟨_, rfl⟩
              unfold DrnIs at hD1
              rw [← hU, ← hM] at hD1
              have HL := Lib.hid (And.intro l1 (And.intro l2 (And.intro l3 (And.intro hA2 (And.intro hU (And.intro hM (And.intro hIn (And.intro (show ∀ m ∈ M, m.rcp.length ≤ 1000000 from by rw [hM]; exact hrc) (show M.length ≤ 1000000 from by rw [hM, hA1]; exact Nat.le_trans (drain_cnt _ _ _ _) (by show 0 + 3100 ≤ 1000000; decide))))))))))
              have HD1 := Lib.hid hD1
              clear l1 l2 l3 hA1 hA2 hIn hD1 hU hM hrc
              go_wp2_with fail
              refine HD1.out.mono ?_
              rintro e w9 ⟨mv1, rfl, hm1, hst⟩
              obtain ⟨R9, h9, -, -⟩ := H8.out.step hst
              have hbT : ∀ k, T8 k ≠ 0 → k < w8.heap.size := fun k e => (H8.out.two.bnd k e).2
              have hD2 := drained_any TH.1 y av ans h9.two HW.out.1 HT.out.2.1 (by have := HX.out.2.2; omega) (by have := HT.out.2.2; omega) (HL.out.2.2.2.2.2.2.1 _ h9.below)
              rw [← HL.out.2.2.2.1] at hD2
              unfold DrnIs at hD2
              rw [← HL.out.1, ← HL.out.2.1, ← HL.out.2.2.2.2.1, ← HL.out.2.2.2.2.2.1] at hD2
              obtain ⟨p1, c1, rfl, hc1⟩ := hm1.form
              have HD2 := Lib.hid hD2
              have H9 := Lib.hid (And.intro h9.swap (And.intro hm1 (And.intro hbT (Fr.size hst.choose_spec.2.2))))
              clear h9 hm1 hbT hst hD2
              go_wp2_with fail
              refine HD2.out.mono ?_
              rintro e w10 ⟨mv2, rfl, hm2, hst⟩
              obtain ⟨p2, c2, rfl, hc2⟩ := hm2.form
              obtain ⟨T10, h10, x10, f10⟩ := H9.out.1.step hst
              have hm1 : MailsOut w8.heap.size w10 (.slice p1 M.length c1) M := H9.out.2.1.keeps (fun g hg hgl => f10.block g hgl (fun e => by have := H9.out.2.2.1 g e; omega)) f10.size
              obtain ⟨V, hV⟩ : ∃ V, V = A1.s.st.over := ⟨_, rfl⟩
              have hO1 := ses_over h10.two
              have hO2 := ses_over h10.one
              rw [← HL.out.2.2.1, ← hV] at hO2
              rw [← hV] at hO1
              have HO1 := Lib.hid hO1
              have HO2 := Lib.hid hO2
              have HM := Lib.hid (And.intro hm1 (And.intro hm2 h10.below))
              clear hO1 hO2 hV hm1 hm2 h10 x10 f10 hst
              go_wp2_with fail
              refine HO1.out.mono ?_
              rintro e wz ⟨rfl, rfl⟩
              go_wp2_with fail
              refine HO2.out.mono ?_
              rintro e wy ⟨rfl, rfl⟩
              have HN := Lib.hid (And.intro HL.out.2.2.2.2.2.2.2.2 HL.out.2.2.2.2.2.2.2.1)
              go_wp2_with fail
              go_loopg [23] M.length (fun g iv wr => ∃ i : Nat, i + g = M.length ∧ iv = .int .i64 i ∧ Hid (Below wy.heap.size wy wr))
              case atStart => exact ⟨0, by omega, rfl, Below.refl _ _⟩
              case round =>
                obtain ⟨i, hi, rfl, hbw⟩ := hrel
                by_cases hl : i < M.length
                · have u1 : decide ((i : Int) < (M.length : Int)) = true := decide_eq_true (by omega)
                  have u3 : (i : Int) < (M.length : Int) := by omega
                  have u6 : IntKind.i64.wrap ((i : Int) + 1) = (i : Int) + 1 := w64 rfl (by omega) (by have := HN.out.1; omega)
                  obtain ⟨g1, o1, F1, q1, n1, d1, Y1, rfl, E1, -, -, k0, k1, k2⟩ := HM.out.1.at i hl
                  obtain ⟨g2, o2, F2, q2, n2, d2, Y2, rfl, E2, -, -, k3, k4, k5⟩ := HM.out.2.1.at i hl
                  have hbd : Below wy.heap.size wy wr.drew := hbw.out.drew
                  replace E1 := E1.keepsB (Z := fun _ => True) (fun g _ hgl => hbd.block g hgl) hbd.size (fun _ _ _ => trivial)
                  replace E2 := E2.keepsB (Z := fun _ => True) (fun g _ hgl => hbd.block g hgl) hbd.size (fun _ _ _ => trivial)
                  have hsm : Calls Tryz.prog 18 #[.agg #[.string F1, .slice q1 n1 d1, .string Y1], .agg #[.string F2, .slice q2 n2 d2, .string Y2]] wr.drew fun e w' => e = .returned (.bool true) ∧ Below wr.drew.heap.size wr.drew w' := same_any ⟨F1, q1, n1, d1, Y1⟩ ⟨F2, q2, n2, d2, Y2⟩ M[i] E1 E2 (HN.out.2 _ (List.getElem_mem hl))
                  replace k0 := cell_later hbd k0
                  replace k1 := cell_later hbd k1
                  replace k2 := cell_later hbd k2
                  replace k3 := cell_later hbd k3
                  replace k4 := cell_later hbd k4
                  replace k5 := cell_later hbd k5
                  have HSm := Lib.hid (And.intro hsm (And.intro hi (And.intro hl hbd)))
                  have hS0 : Hid ((wr.drew.cell? ⟨g1, o1 + i * 3, none⟩ = some (.string F1) ∧ wr.drew.cell? ⟨g1, o1 + i * 3 + 1, none⟩ = some (.slice q1 n1 d1) ∧ wr.drew.cell? ⟨g1, o1 + i * 3 + 2, none⟩ = some (.string Y1)) ∧ wr.drew.cell? ⟨g2, o2 + i * 3, none⟩ = some (.string F2) ∧ wr.drew.cell? ⟨g2, o2 + i * 3 + 1, none⟩ = some (.slice q2 n2 d2) ∧ wr.drew.cell? ⟨g2, o2 + i * 3 + 2, none⟩ = some (.string Y2)) := ⟨⟨k0, k1, k2⟩, k3, k4, k5⟩
                  clear hsm E1 E2 hbd hi hl k0 k1 k2 k3 k4 k5
                  go_wp2_with fail
                  refine wp_region_heldO (fun V => (V.cell? ⟨g1, o1 + i * 3, none⟩ = some (.string F1) ∧ V.cell? ⟨g1, o1 + i * 3 + 1, none⟩ = some (.slice q1 n1 d1) ∧ V.cell? ⟨g1, o1 + i * 3 + 2, none⟩ = some (.string Y1)) ∧ V.cell? ⟨g2, o2 + i * 3, none⟩ = some (.string F2) ∧ V.cell? ⟨g2, o2 + i * 3 + 1, none⟩ = some (.slice q2 n2 d2) ∧ V.cell? ⟨g2, o2 + i * 3 + 2, none⟩ = some (.string Y2)) 10 (by kernel_rfl) rfl hS0.out (fun hHeld => ?_)
                  refine takeO (v := ?_) 0 rfl (by kernel_rfl) (by kernel_rfl) (by kernel_rfl) (by rfl) ?_ hHeld ?_
                  rotate_left
                  · intro w hSw
                    obtain ⟨⟨hSw0, hSw1, hSw2⟩, hSw3, hSw4, hSw5⟩ := hSw
                    go_simp
                    first | done | with_reducible rfl
                  simp only [Act.put, List.setIfInBounds_toArray, List.set_cons_zero, List.set_cons_succ]
                  refine takeO (v := ?_) 1 rfl (by kernel_rfl) (by kernel_rfl) (by kernel_rfl) (by rfl) ?_ hHeld ?_
                  rotate_left
                  · intro w hSw
                    obtain ⟨⟨hSw0, hSw1, hSw2⟩, hSw3, hSw4, hSw5⟩ := hSw
                    go_simp
                    first | done | with_reducible rfl
                  simp only [Act.put, List.setIfInBounds_toArray, List.set_cons_zero, List.set_cons_succ]
                  refine takeO (v := ?_) 2 rfl (by kernel_rfl) (by kernel_rfl) (by kernel_rfl) (by rfl) ?_ hHeld ?_
                  rotate_left
                  · intro w hSw
                    obtain ⟨⟨hSw0, hSw1, hSw2⟩, hSw3, hSw4, hSw5⟩ := hSw
                    go_simp
                    first | done | with_reducible rfl
                  simp only [Act.put, List.setIfInBounds_toArray, List.set_cons_zero, List.set_cons_succ]
                  refine takeO (v := ?_) 3 rfl (by kernel_rfl) (by kernel_rfl) (by kernel_rfl) (by rfl) ?_ hHeld ?_
                  rotate_left
                  · intro w hSw
                    obtain ⟨⟨hSw0, hSw1, hSw2⟩, hSw3, hSw4, hSw5⟩ := hSw
                    go_simp
                    first | done | with_reducible rfl
                  simp only [Act.put, List.setIfInBounds_toArray, List.set_cons_zero, List.set_cons_succ]
                  refine takeO (v := ?_) 4 rfl (by kernel_rfl) (by kernel_rfl) (by kernel_rfl) (by rfl) ?_ hHeld ?_
                  rotate_left
                  · intro w hSw
                    obtain ⟨⟨hSw0, hSw1, hSw2⟩, hSw3, hSw4, hSw5⟩ := hSw
                    go_simp
                    first | done | with_reducible rfl
                  simp only [Act.put, List.setIfInBounds_toArray, List.set_cons_zero, List.set_cons_succ]
                  refine takeO (v := ?_) 5 rfl (by kernel_rfl) (by kernel_rfl) (by kernel_rfl) (by rfl) ?_ hHeld ?_
                  rotate_left
                  · intro w hSw
                    obtain ⟨⟨hSw0, hSw1, hSw2⟩, hSw3, hSw4, hSw5⟩ := hSw
                    go_simp
                    first | done | with_reducible rfl
                  simp only [Act.put, List.setIfInBounds_toArray, List.set_cons_zero, List.set_cons_succ]
                  refine takeO (v := ?_) 6 rfl (by kernel_rfl) (by kernel_rfl) (by kernel_rfl) (by rfl) ?_ hHeld ?_
                  rotate_left
                  · intro w hSw
                    obtain ⟨⟨hSw0, hSw1, hSw2⟩, hSw3, hSw4, hSw5⟩ := hSw
                    go_simp
                    first | done | with_reducible rfl
                  simp only [Act.put, List.setIfInBounds_toArray, List.set_cons_zero, List.set_cons_succ]
                  refine takeO (v := ?_) 7 rfl (by kernel_rfl) (by kernel_rfl) (by kernel_rfl) (by rfl) ?_ hHeld ?_
                  rotate_left
                  · intro w hSw
                    obtain ⟨⟨hSw0, hSw1, hSw2⟩, hSw3, hSw4, hSw5⟩ := hSw
                    go_simp
                    first | done | with_reducible rfl
                  simp only [Act.put, List.setIfInBounds_toArray, List.set_cons_zero, List.set_cons_succ]
                  refine callO (f := 18) (args := #[.agg #[.string F1, .slice q1 n1 d1, .string Y1], .agg #[.string F2, .slice q2 n2 d2, .string Y2]]) 8 rfl (by kernel_rfl) (by rfl) (by go_simp) (HSm.out.1.mono ?_)
                  rintro e w11 ⟨rfl, hbs⟩
                  have hS9 : (w11.cell? ⟨g1, o1 + i * 3, none⟩ = some (.string F1) ∧ w11.cell? ⟨g1, o1 + i * 3 + 1, none⟩ = some (.slice q1 n1 d1) ∧ w11.cell? ⟨g1, o1 + i * 3 + 2, none⟩ = some (.string Y1)) ∧ w11.cell? ⟨g2, o2 + i * 3, none⟩ = some (.string F2) ∧ w11.cell? ⟨g2, o2 + i * 3 + 1, none⟩ = some (.slice q2 n2 d2) ∧ w11.cell? ⟨g2, o2 + i * 3 + 2, none⟩ = some (.string Y2) := by
                    obtain ⟨⟨k0, k1, k2⟩, k3, k4, k5⟩ := hHeld
                    exact ⟨⟨cell_later hbs k0, cell_later hbs k1, cell_later hbs k2⟩, cell_later hbs k3, cell_later hbs k4, cell_later hbs k5⟩
                  have HBs := Lib.hid (HSm.out.2.2.2.trans (hbs.mono HSm.out.2.2.2.size))
                  clear hbs hHeld
                  refine ⟨_, rfl, hS9, ?_⟩
                  simp only [Act.put, List.setIfInBounds_toArray, List.set_cons_zero, List.set_cons_succ]
                  refine stepO (w' := w11) (v := .bool false) 9 rfl (by kernel_rfl) (by rfl) (by go_simp) hS9 ?_
                  simp only [Act.put, List.setIfInBounds_toArray, List.set_cons_zero, List.set_cons_succ]
                  refine doneO (by kernel_rfl) ?_
                  clear hS9 hS0
                  go_wp2
                  go_roundg (M.length - (i + 1))
                  case rel => exact ⟨i + 1, by have := HSm.out.2.2.1; omega, rfl, HBs.out⟩
                  case measure => have := HSm.out; omega
                · have u1 : decide ((i : Int) < (M.length : Int)) = false := decide_eq_false (by omega)
                  have u2 : decide (i < M.length) = false := decide_eq_false hl
                  clear hi hl
                  go_wp2
                  go_ret
                  exact ⟨rfl, HM.out.2.2.trans (hbw.out.mono HM.out.2.2.size)⟩
            · have hab2 : (O2.toList = [50, 53, 48, 32, 79, 75, 13, 10]) = False := by
                rw [eq_iff_iff, iff_false]
                intro e
                rw [Lib.toList_data] at e
                exact hab (by cases O2 with | mk d => cases d with | mk l => exact congrArg (fun z => ByteArray.mk (Array.mk z)) e)
              have hab3 : (O2.toList == [50, 53, 48, 32, 79, 75, 13, 10]) = false := by rw [beq_eq_false_iff_ne]; intro e; rw [hab2] at e; exact e
              clear hab
              go_wp2
              go_ret
              exact ⟨rfl, H8.out.below⟩
      · obtain ⟨e1, e2, e3⟩ := str_lit hx0
        have u3 : 1 ≤ (x.size : Int) ∧ (x.size : Int) - 1 < (x.size : Int) := by omega
        have e4 : x.size - 1 < x.size := by omega
        have u7 : IntKind.i64.wrap ((x.size : Int) - 1) = (x.size : Int) - 1 := w64 rfl (by omega) (by omega)
        by_cases hL : x[x.size - 1] = 10
        · have u4 : ((x[x.size - 1].toNat : Int) != 10) = false := by rw [hL]; decide
          have hxx : x.data.toList = [] ∨ x.data.toList.getLast? = some 10 := .inr (last_is e4 hL)
          clear hL hx0
          have HX := Lib.hid (And.intro hxx (And.intro hx3 hy3))
          clear hxx hx3 hy3
          go_wp2_with fail
          refine HN1.out.mono ?_
          rintro e w2 ⟨sb, R2, rfl, hs2, hR2, hb2⟩
          have HN2 := Lib.hid (ses_new m0 hs2.ctx)
          have H2 := Lib.hid (And.intro hs2 (And.intro hR2 hb2))
          clear hs2 hR2 hb2
          go_wp2_with fail
          refine HN2.out.mono ?_
          rintro e w3 ⟨tb, T3, rfl, hs3, hR3, hb3⟩
          have h3 : Two w sb tb (clampM m0) R2 T3 begin0 begin0 w3 := ⟨H2.out.1.below hb3, hs3, HB1.out.trans ((H2.out.2.2.mono HB1.out.size).trans (hb3.mono (Nat.le_trans HB1.out.size H2.out.2.2.size))), fun k e => by
            by_cases e' : T3 k = 0
            · exact e'
            · have := hR3 k e'; have := (H2.out.1.bnd k e).2; omega⟩
          have hm := (clampM_le m0).2
          clear hs3 hR3 hb3 H2 HN1 HN2
          generalize clampM m0 = most at *
          obtain ⟨FA, hFA⟩ : ∃ FA, FA = feedW most begin0 x.data.toList := ⟨_, rfl⟩
          have hxl : x.data.toList.length = x.size := rfl
          have hF1 := feed_any h3.one hm (gd0 most) x (by have := HX.out.2.1; omega) (by have := HX.out.2.1; have e0 : Sm.wt begin0 = 0 := rfl; omega)
          have hgA := (gd0 most).feed x.data.toList
          have hwA := feed_wt hm (gd0 most) x.data.toList
          rw [← hFA] at hF1 hgA hwA
          obtain ⟨F, hF⟩ : ∃ F, F = drainW most an1 3100 ⟨FA.1, FA.2, []⟩ := ⟨_, rfl⟩
          have hFc : F = chunkW most an1 3100 ⟨begin0, [], []⟩ x.data.toList := by rw [hF, hFA]; rfl
          have hD0 : Hid (drainW most an1 3100 ⟨FA.1, FA.2, []⟩ = F) := hF.symm
          have HW := Lib.hid (And.intro hm (And.intro hgA (And.intro hwA (And.intro hFc hxl))))
          have H3 := Lib.hid h3
          obtain ⟨O1, hO1⟩ : ∃ O1, O1 = bt FA.2 := ⟨_, rfl⟩
          unfold FedIs at hF1
          rw [← hO1] at hF1
          have HF1 := Lib.hid hF1
          clear hm hFA hxl hF1 hgA hwA hF hFc h3 hO1
          go_wp2_with fail
          refine HF1.out.mono ?_
          rintro e w4 ⟨rfl, hst⟩
          obtain ⟨R4, h4, -, -⟩ := H3.out.step hst
          have hI0 : Hid (HlI w w4 sb tb most R4 T3 ⟨FA.1, FA.2, []⟩) := ⟨h4, HW.out.2.1, by have h9 := HW.out.2.2.1; have h8 := HX.out.2.1; have h7 := HW.out.2.2.2.2; have e0 : Sm.wt begin0 = 0 := rfl; show FA.2.length + Sm.wt FA.1 ≤ _; omega⟩
          clear hst h4
          go_wp2_with fail
          go_loopg [13, 14] 3100 (fun g wv kv wr => ∃ (k : Nat) (a : Acc) (R : Roles), k + g = 3100 ∧ kv = .int .i64 k ∧ wv = .bool a.s.st.waits ∧ Hid (HlI w wr sb tb most R T3 a) ∧ Hid (drainW most an1 g a = F))
          case atStart => exact ⟨0, _, R4, rfl, rfl, rfl, hI0, hD0⟩
          case round =>
            clear hI0 hD0 H3 HF1
            obtain ⟨k, a, R, hk, rfl, rfl, hI, hD⟩ := hrel
            by_cases hk1 : k < 3100
            · have u1 : decide ((k : Int) < 3100) = true := decide_eq_true (by omega)
              cases hw : a.s.st.waits with
              | false =>
                have hFa : F = a := by rw [← hD.out]; exact drain_end _ _ _ _ (.inr hw)
                have HFa := Lib.hid hFa
                clear hFa
                obtain ⟨FH, hFH⟩ : ∃ FH, FH = feedW most a.s heloX := ⟨_, rfl⟩
                have hF2 := feed_any (chunk := ⟨heloX.toArray⟩) hI.out.two.one HW.out.1 hI.out.gd (by decide) (by have h9 := hI.out.wt; have e0 : (ByteArray.mk heloX.toArray).size = 8 := rfl; omega)
                replace hF2 : Calls Tryz.prog 14 #[.pointer (some ⟨sb, 0, none⟩), .string ⟨#[72, 69, 76, 79, 32, 120, 13, 10]⟩] wr (FedIs w.heap.size wr sb most R (feedW most a.s heloX)) := hF2
                rw [← hFH] at hF2
                obtain ⟨O2, hO2⟩ : ∃ O2, O2 = bt FH.2 := ⟨_, rfl⟩
                unfold FedIs at hF2
                rw [← hO2] at hF2
                have hgH := hI.out.gd.feed heloX
                have hwH := feed_wt HW.out.1 hI.out.gd heloX
                have hwI := hI.out.wt
                rw [← hFH] at hgH hwH
                have HH := Lib.hid (And.intro hFH (And.intro hO2 (And.intro hgH (show Sm.wt FH.1 ≤ 6100000 from by have e0 : heloX.length = 8 := rfl; omega))))
                have HF2 := Lib.hid hF2
                obtain ⟨TH, hTH⟩ : ∃ TH, TH = feedW most begin0 heloX := ⟨_, rfl⟩
                have hgT := (gd0 most).feed heloX
                have hwT := feed_wt HW.out.1 (gd0 most) heloX
                rw [← hTH] at hgT hwT
                have HT := Lib.hid (And.intro hTH (And.intro hgT (show Sm.wt TH.1 ≤ 6100000 from by have e0 : heloX.length = 8 := rfl; have e1 : Sm.wt begin0 = 0 := rfl; omega)))
                clear hFH hF2 hO2 hgH hwH hwI hTH hgT hwT hk
                go_wp2_with fail
                refine HF2.out.mono ?_
                rintro e w7 ⟨rfl, hst⟩
                obtain ⟨R7, h7, -, -⟩ := hI.out.two.step hst
                have HF3 := Lib.hid (fedE (chunk := ⟨heloX.toArray⟩) h7.two HW.out.1 (gd0 most) (by decide) (by have e0 : (ByteArray.mk heloX.toArray).size = 8 := rfl; have e1 : Sm.wt begin0 = 0 := rfl; omega) (p := TH) HT.out.1.symm (o := ⟨#[50, 53, 48, 32, 79, 75, 13, 10]⟩) (by rw [HT.out.1, feed_helo0, rep250]; rfl) (b := false) (by rw [HT.out.1, feed_helo0]; rfl))
                have H7 := Lib.hid h7.swap
                clear hst h7
                go_wp2_with fail
                refine HF3.out.mono ?_
                rintro e w8 ⟨rfl, hst⟩
                obtain ⟨T8, h8, -, -⟩ := H7.out.step hst
                have H8 := Lib.hid h8.swap
                clear hst h8
                by_cases hab : O2 = ⟨#[50, 53, 48, 32, 79, 75, 13, 10]⟩
                · have hlw := hello_law most an1 (anL ans) 3100 x.data.toList y.data.toList HX.out.1 (by have := HX.out.2.1; have e0 : x.data.toList.length = x.size := rfl; omega) (by have := HX.out.2.2; have e0 : y.data.toList.length = y.size := rfl; omega)
                  simp only [← HW.out.2.2.2.1] at hlw
                  rw [HFa.out, ← HH.out.1, ← HT.out.1] at hlw
                  have hlw := hlw (by have h9 := HH.out.2.1; rw [hab] at h9; have h9 := congrArg (fun z : ByteArray => z.data.toList) h9; rw [rep250]; exact h9.symm)
                  subst hab
                  obtain ⟨A1, hA1⟩ : ∃ A1, A1 = chunkW most (anL ans) 3100 ⟨FH.1, [], []⟩ y.data.toList := ⟨_, rfl⟩
                  obtain ⟨A2, hA2⟩ : ∃ A2, A2 = chunkW most (anL ans) 3100 ⟨TH.1, [], []⟩ y.data.toList := ⟨_, rfl⟩
                  rw [← hA1, ← hA2] at hlw
                  obtain ⟨l1, l2, l3⟩ := hlw
                  have hIn : ∀ V, Below w.heap.size w V → IntIn .i64 w.heap.size V av ans := fun V hb => HA.out.keeps (fun g hg => hb.block g hg) (Nat.le_refl _)
                  have hD1 := drained_any FH.1 y av ans H8.out.one HW.out.1 HH.out.2.2.1 (by have := HX.out.2.2; omega) (by have := HH.out.2.2.2; omega) (hIn _ H8.out.below)
                  have hrc := drain_rcp HW.out.1 (anL ans) 3100 ⟨(feedW most FH.1 y.data.toList).1, [] ++ (feedW most FH.1 y.data.toList).2, []⟩ (HH.out.2.2.1.feed _) (fun m e => by cases e)
                  change ∀ m ∈ (chunkW most (anL ans) 3100 ⟨FH.1, [], []⟩ y.data.toList).mails, m.rcp.length ≤ 1000000 at hrc
                  rw [← hA1] at hD1 hrc
                  obtain ⟨U, hU⟩ : ∃ U, U = bt A1.out := ⟨_, rfl⟩
                  obtain ⟨M, hM⟩ : ∃ M, M = A1.mails := ⟨_, rfl⟩
                  unfold DrnIs at hD1
                  rw [← hU, ← hM] at hD1
                  have HL := Lib.hid (And.intro l1 (And.intro l2 (And.intro l3 (And.intro hA2 (And.intro hU (And.intro hM (And.intro hIn (And.intro (show ∀ m ∈ M, m.rcp.length ≤ 1000000 from by rw [hM]; exact hrc) (show M.length ≤ 1000000 from by rw [hM, hA1]; exact Nat.le_trans (drain_cnt _ _ _ _) (by show 0 + 3100 ≤ 1000000; decide))))))))))
                  have HD1 := Lib.hid hD1
                  clear l1 l2 l3 hA1 hA2 hIn hD1 hU hM hrc
                  go_wp2_with fail
                  refine HD1.out.mono ?_
                  rintro e w9 ⟨mv1, rfl, hm1, hst⟩
                  obtain ⟨R9, h9, -, -⟩ := H8.out.step hst
                  have hbT : ∀ k, T8 k ≠ 0 → k < w8.heap.size := fun k e => (H8.out.two.bnd k e).2
                  have hD2 := drained_any TH.1 y av ans h9.two HW.out.1 HT.out.2.1 (by have := HX.out.2.2; omega) (by have := HT.out.2.2; omega) (HL.out.2.2.2.2.2.2.1 _ h9.below)
                  rw [← HL.out.2.2.2.1] at hD2
                  unfold DrnIs at hD2
                  rw [← HL.out.1, ← HL.out.2.1, ← HL.out.2.2.2.2.1, ← HL.out.2.2.2.2.2.1] at hD2
                  obtain ⟨p1, c1, rfl, hc1⟩ := hm1.form
                  have HD2 := Lib.hid hD2
                  have H9 := Lib.hid (And.intro h9.swap (And.intro hm1 (And.intro hbT (Fr.size hst.choose_spec.2.2))))
                  clear h9 hm1 hbT hst hD2
                  go_wp2_with fail
                  refine HD2.out.mono ?_
                  rintro e w10 ⟨mv2, rfl, hm2, hst⟩
                  obtain ⟨p2, c2, rfl, hc2⟩ := hm2.form
                  obtain ⟨T10, h10, x10, f10⟩ := H9.out.1.step hst
                  have hm1 : MailsOut w8.heap.size w10 (.slice p1 M.length c1) M := H9.out.2.1.keeps (fun g hg hgl => f10.block g hgl (fun e => by have := H9.out.2.2.1 g e; omega)) f10.size
                  obtain ⟨V, hV⟩ : ∃ V, V = A1.s.st.over := ⟨_, rfl⟩
                  have hO1 := ses_over h10.two
                  have hO2 := ses_over h10.one
                  rw [← HL.out.2.2.1, ← hV] at hO2
                  rw [← hV] at hO1
                  have HO1 := Lib.hid hO1
                  have HO2 := Lib.hid hO2
                  have HM := Lib.hid (And.intro hm1 (And.intro hm2 h10.below))
                  clear hO1 hO2 hV hm1 hm2 h10 x10 f10 hst
                  go_wp2_with fail
                  refine HO1.out.mono ?_
                  rintro e wz ⟨rfl, rfl⟩
                  go_wp2_with fail
                  refine HO2.out.mono ?_
                  rintro e wy ⟨rfl, rfl⟩
                  have HN := Lib.hid (And.intro HL.out.2.2.2.2.2.2.2.2 HL.out.2.2.2.2.2.2.2.1)
                  go_wp2_with fail
                  go_loopg [23] M.length (fun g iv wr => ∃ i : Nat, i + g = M.length ∧ iv = .int .i64 i ∧ Hid (Below wy.heap.size wy wr))
                  case atStart => exact ⟨0, by omega, rfl, Below.refl _ _⟩
                  case round =>
                    obtain ⟨i, hi, rfl, hbw⟩ := hrel
                    by_cases hl : i < M.length
                    · have u1 : decide ((i : Int) < (M.length : Int)) = true := decide_eq_true (by omega)
                      have u3 : (i : Int) < (M.length : Int) := by omega
                      have u6 : IntKind.i64.wrap ((i : Int) + 1) = (i : Int) + 1 := w64 rfl (by omega) (by have := HN.out.1; omega)
                      obtain ⟨g1, o1, F1, q1, n1, d1, Y1, rfl, E1, -, -, k0, k1, k2⟩ := HM.out.1.at i hl
                      obtain ⟨g2, o2, F2, q2, n2, d2, Y2, rfl, E2, -, -, k3, k4, k5⟩ := HM.out.2.1.at i hl
                      have hbd : Below wy.heap.size wy wr.drew := hbw.out.drew
                      replace E1 := E1.keepsB (Z := fun _ => True) (fun g _ hgl => hbd.block g hgl) hbd.size (fun _ _ _ => trivial)
                      replace E2 := E2.keepsB (Z := fun _ => True) (fun g _ hgl => hbd.block g hgl) hbd.size (fun _ _ _ => trivial)
                      have hsm : Calls Tryz.prog 18 #[.agg #[.string F1, .slice q1 n1 d1, .string Y1], .agg #[.string F2, .slice q2 n2 d2, .string Y2]] wr.drew fun e w' => e = .returned (.bool true) ∧ Below wr.drew.heap.size wr.drew w' := same_any ⟨F1, q1, n1, d1, Y1⟩ ⟨F2, q2, n2, d2, Y2⟩ M[i] E1 E2 (HN.out.2 _ (List.getElem_mem hl))
                      replace k0 := cell_later hbd k0
                      replace k1 := cell_later hbd k1
                      replace k2 := cell_later hbd k2
                      replace k3 := cell_later hbd k3
                      replace k4 := cell_later hbd k4
                      replace k5 := cell_later hbd k5
                      have HSm := Lib.hid (And.intro hsm (And.intro hi (And.intro hl hbd)))
                      have hS0 : Hid ((wr.drew.cell? ⟨g1, o1 + i * 3, none⟩ = some (.string F1) ∧ wr.drew.cell? ⟨g1, o1 + i * 3 + 1, none⟩ = some (.slice q1 n1 d1) ∧ wr.drew.cell? ⟨g1, o1 + i * 3 + 2, none⟩ = some (.string Y1)) ∧ wr.drew.cell? ⟨g2, o2 + i * 3, none⟩ = some (.string F2) ∧ wr.drew.cell? ⟨g2, o2 + i * 3 + 1, none⟩ = some (.slice q2 n2 d2) ∧ wr.drew.cell? ⟨g2, o2 + i * 3 + 2, none⟩ = some (.string Y2)) := ⟨⟨k0, k1, k2⟩, k3, k4, k5⟩
                      clear hsm E1 E2 hbd hi hl k0 k1 k2 k3 k4 k5
                      go_wp2_with fail
                      refine wp_region_heldO (fun V => (V.cell? ⟨g1, o1 + i * 3, none⟩ = some (.string F1) ∧ V.cell? ⟨g1, o1 + i * 3 + 1, none⟩ = some (.slice q1 n1 d1) ∧ V.cell? ⟨g1, o1 + i * 3 + 2, none⟩ = some (.string Y1)) ∧ V.cell? ⟨g2, o2 + i * 3, none⟩ = some (.string F2) ∧ V.cell? ⟨g2, o2 + i * 3 + 1, none⟩ = some (.slice q2 n2 d2) ∧ V.cell? ⟨g2, o2 + i * 3 + 2, none⟩ = some (.string Y2)) 10 (by kernel_rfl) rfl hS0.out (fun hHeld => ?_)
                      refine takeO (v := ?_) 0 rfl (by kernel_rfl) (by kernel_rfl) (by kernel_rfl) (by rfl) ?_ hHeld ?_
                      rotate_left
                      · intro w hSw
                        obtain ⟨⟨hSw0, hSw1, hSw2⟩, hSw3, hSw4, hSw5⟩ := hSw
                        go_simp
                        first | done | with_reducible rfl
                      simp only [Act.put, List.setIfInBounds_toArray, List.set_cons_zero, List.set_cons_succ]
                      refine takeO (v := ?_) 1 rfl (by kernel_rfl) (by kernel_rfl) (by kernel_rfl) (by rfl) ?_ hHeld ?_
                      rotate_left
                      · intro w hSw
                        obtain ⟨⟨hSw0, hSw1, hSw2⟩, hSw3, hSw4, hSw5⟩ := hSw
                        go_simp
                        first | done | with_reducible rfl
                      simp only [Act.put, List.setIfInBounds_toArray, List.set_cons_zero, List.set_cons_succ]
                      refine takeO (v := ?_) 2 rfl (by kernel_rfl) (by kernel_rfl) (by kernel_rfl) (by rfl) ?_ hHeld ?_
                      rotate_left
                      · intro w hSw
                        obtain ⟨⟨hSw0, hSw1, hSw2⟩, hSw3, hSw4, hSw5⟩ := hSw
                        go_simp
                        first | done | with_reducible rfl
                      simp only [Act.put, List.setIfInBounds_toArray, List.set_cons_zero, List.set_cons_succ]
                      refine takeO (v := ?_) 3 rfl (by kernel_rfl) (by kernel_rfl) (by kernel_rfl) (by rfl) ?_ hHeld ?_
                      rotate_left
                      · intro w hSw
                        obtain ⟨⟨hSw0, hSw1, hSw2⟩, hSw3, hSw4, hSw5⟩ := hSw
                        go_simp
                        first | done | with_reducible rfl
                      simp only [Act.put, List.setIfInBounds_toArray, List.set_cons_zero, List.set_cons_succ]
                      refine takeO (v := ?_) 4 rfl (by kernel_rfl) (by kernel_rfl) (by kernel_rfl) (by rfl) ?_ hHeld ?_
                      rotate_left
                      · intro w hSw
                        obtain ⟨⟨hSw0, hSw1, hSw2⟩, hSw3, hSw4, hSw5⟩ := hSw
                        go_simp
                        first | done | with_reducible rfl
                      simp only [Act.put, List.setIfInBounds_toArray, List.set_cons_zero, List.set_cons_succ]
                      refine takeO (v := ?_) 5 rfl (by kernel_rfl) (by kernel_rfl) (by kernel_rfl) (by rfl) ?_ hHeld ?_
                      rotate_left
                      · intro w hSw
                        obtain ⟨⟨hSw0, hSw1, hSw2⟩, hSw3, hSw4, hSw5⟩ := hSw
                        go_simp
                        first | done | with_reducible rfl
                      simp only [Act.put, List.setIfInBounds_toArray, List.set_cons_zero, List.set_cons_succ]
                      refine takeO (v := ?_) 6 rfl (by kernel_rfl) (by kernel_rfl) (by kernel_rfl) (by rfl) ?_ hHeld ?_
                      rotate_left
                      · intro w hSw
                        obtain ⟨⟨hSw0, hSw1, hSw2⟩, hSw3, hSw4, hSw5⟩ := hSw
                        go_simp
                        first | done | with_reducible rfl
                      simp only [Act.put, List.setIfInBounds_toArray, List.set_cons_zero, List.set_cons_succ]
                      refine takeO (v := ?_) 7 rfl (by kernel_rfl) (by kernel_rfl) (by kernel_rfl) (by rfl) ?_ hHeld ?_
                      rotate_left
                      · intro w hSw
                        obtain ⟨⟨hSw0, hSw1, hSw2⟩, hSw3, hSw4, hSw5⟩ := hSw
                        go_simp
                        first | done | with_reducible rfl
                      simp only [Act.put, List.setIfInBounds_toArray, List.set_cons_zero, List.set_cons_succ]
                      refine callO (f := 18) (args := #[.agg #[.string F1, .slice q1 n1 d1, .string Y1], .agg #[.string F2, .slice q2 n2 d2, .string Y2]]) 8 rfl (by kernel_rfl) (by rfl) (by go_simp) (HSm.out.1.mono ?_)
                      rintro e w11 ⟨rfl, hbs⟩
                      have hS9 : (w11.cell? ⟨g1, o1 + i * 3, none⟩ = some (.string F1) ∧ w11.cell? ⟨g1, o1 + i * 3 + 1, none⟩ = some (.slice q1 n1 d1) ∧ w11.cell? ⟨g1, o1 + i * 3 + 2, none⟩ = some (.string Y1)) ∧ w11.cell? ⟨g2, o2 + i * 3, none⟩ = some (.string F2) ∧ w11.cell? ⟨g2, o2 + i * 3 + 1, none⟩ = some (.slice q2 n2 d2) ∧ w11.cell? ⟨g2, o2 + i * 3 + 2, none⟩ = some (.string Y2) := by
                        obtain ⟨⟨k0, k1, k2⟩, k3, k4, k5⟩ := hHeld
                        exact ⟨⟨cell_later hbs k0, cell_later hbs k1, cell_later hbs k2⟩, cell_later hbs k3, cell_later hbs k4, cell_later hbs k5⟩
                      have HBs := Lib.hid (HSm.out.2.2.2.trans (hbs.mono HSm.out.2.2.2.size))
                      clear hbs hHeld
                      refine ⟨_, rfl, hS9, ?_⟩
                      simp only [Act.put, List.setIfInBounds_toArray, List.set_cons_zero, List.set_cons_succ]
                      refine stepO (w' := w11) (v := .bool false) 9 rfl (by kernel_rfl) (by rfl) (by go_simp) hS9 ?_
                      simp only [Act.put, List.setIfInBounds_toArray, List.set_cons_zero, List.set_cons_succ]
                      refine doneO (by kernel_rfl) ?_
                      clear hS9 hS0
                      go_wp2
                      go_roundg (M.length - (i + 1))
                      case rel => exact ⟨i + 1, by have := HSm.out.2.2.1; omega, rfl, HBs.out⟩
                      case measure => have := HSm.out; omega
                    · have u1 : decide ((i : Int) < (M.length : Int)) = false := decide_eq_false (by omega)
                      have u2 : decide (i < M.length) = false := decide_eq_false hl
                      clear hi hl
                      go_wp2
                      go_ret
                      exact ⟨rfl, HM.out.2.2.trans (hbw.out.mono HM.out.2.2.size)⟩
                · have hab2 : (O2.toList = [50, 53, 48, 32, 79, 75, 13, 10]) = False := by
                    rw [eq_iff_iff, iff_false]
                    intro e
                    rw [Lib.toList_data] at e
                    exact hab (by cases O2 with | mk d => cases d with | mk l => exact congrArg (fun z => ByteArray.mk (Array.mk z)) e)
                  have hab3 : (O2.toList == [50, 53, 48, 32, 79, 75, 13, 10]) = false := by rw [beq_eq_false_iff_ne]; intro e; rw [hab2] at e; exact e
                  clear hab
                  go_wp2
                  go_ret
                  exact ⟨rfl, H8.out.below⟩
              | true =>
                have u6 : IntKind.i64.wrap ((k : Int) + 1) = (k : Int) + 1 := w64 rfl (by omega) (by omega)
                have HK := Lib.hid (And.intro hk (And.intro hk1 hw))
                clear hk hk1 hw
                obtain ⟨AW, hAW⟩ : ∃ AW, AW = answerW a.s.st 1 := ⟨_, rfl⟩
                obtain ⟨FW, hFW⟩ : ∃ FW, FW = feedW most ⟨AW.1, a.s.rest, a.s.kept⟩ [] := ⟨_, rfl⟩
                have hrnd : rndW most an1 a = ⟨FW.1, a.out ++ AW.2 ++ FW.2, a.mails ++ [envOf a.s.st]⟩ := by unfold rndW; rw [hFW, hAW]; rfl
                obtain ⟨r1, r2⟩ := rnd_gd HW.out.1 an1 hI.out.gd hI.out.wt
                rw [hrnd] at r1 r2
                have hAn := ses_answer hI.out.two.one 1
                have hga := hI.out.gd.answer 1
                have hwa := answer_wt' (s := a.s) 1
                rw [← hAW] at hAn hga hwa
                have hwi := hI.out.wt
                have hw2 : Sm.wt ⟨AW.1, a.s.rest, a.s.kept⟩ ≤ 50000000 := by have h9 : AW.2.length + Sm.wt ⟨AW.1, a.s.rest, a.s.kept⟩ ≤ Sm.wt a.s := hwa; omega
                obtain ⟨TA, hTA⟩ : ∃ TA, TA = bt AW.2 := ⟨_, rfl⟩
                obtain ⟨TF, hTF⟩ : ∃ TF, TF = bt FW.2 := ⟨_, rfl⟩
                unfold StpT at hAn
                rw [← hTA] at hAn
                have HX5 := Lib.hid (And.intro hga (And.intro hrnd (And.intro r1 (And.intro r2 (And.intro hFW.symm (And.intro hTF (And.intro hw2 (And.intro hAW hTA))))))))
                have HAn := Lib.hid hAn
                clear hAn hga hrnd r1 r2 hFW hTF hTA hwa hwi hw2 hAW
                go_wp2_with fail
                refine HAn.out.mono ?_
                rintro e w5 ⟨rfl, hst⟩
                obtain ⟨R5, h5, -, -⟩ := hI.out.two.step hst
                have hF5 := feed_any (chunk := ⟨#[]⟩) h5.one HW.out.1 HX5.out.1 (by decide) (by have h9 := HX5.out.2.2.2.2.2.2.1; show Sm.wt ⟨AW.1, a.s.rest, a.s.kept⟩ + 2000 * 0 ≤ _; omega)
                have hF5' : Calls Tryz.prog 14 #[.pointer (some ⟨sb, 0, none⟩), .string ⟨#[]⟩] w5 (FedIs w.heap.size w5 sb most R5 FW) := by
                  have e9 := HX5.out.2.2.2.2.1
                  rw [← e9]; exact hF5
                unfold FedIs at hF5'
                rw [← HX5.out.2.2.2.2.2.1] at hF5'
                have HF5 := Lib.hid hF5'
                have H5 := Lib.hid h5
                clear hF5 hF5' hst h5
                go_wp2_with fail
                refine HF5.out.mono ?_
                rintro e w6 ⟨rfl, hst⟩
                obtain ⟨R6, h6, -, -⟩ := H5.out.step hst
                have hI6 : Hid (HlI w w6 sb tb most R6 T3 ⟨FW.1, a.out ++ AW.2 ++ FW.2, a.mails ++ [envOf a.s.st]⟩) := ⟨h6, HX5.out.2.2.1, HX5.out.2.2.2.1⟩
                clear hst h6
                go_wp2
                go_roundg (3100 - (k + 1))
                case rel =>
                  refine ⟨k + 1, ⟨FW.1, a.out ++ AW.2 ++ FW.2, a.mails ++ [envOf a.s.st]⟩, R6, by have := HK.out.2.1; omega, rfl, rfl, hI6, ?_⟩
                  rw [← HX5.out.2.1]
                  have h9 := hD.out
                  have hg9 : gk = (3100 - (k + 1)) + 1 := by have := HK.out; omega
                  rw [hg9, drain_rnd _ _ _ _ HK.out.2.2] at h9
                  exact h9
                case measure => have := HK.out; omega
            · have u1 : decide ((k : Int) < 3100) = false := decide_eq_false (by omega)
              have hFa : F = a := by rw [← hD.out]; exact drain_end _ _ _ _ (.inl (by omega))
              have HFa := Lib.hid hFa
              clear hFa
              obtain ⟨FH, hFH⟩ : ∃ FH, FH = feedW most a.s heloX := ⟨_, rfl⟩
              have hF2 := feed_any (chunk := ⟨heloX.toArray⟩) hI.out.two.one HW.out.1 hI.out.gd (by decide) (by have h9 := hI.out.wt; have e0 : (ByteArray.mk heloX.toArray).size = 8 := rfl; omega)
              replace hF2 : Calls Tryz.prog 14 #[.pointer (some ⟨sb, 0, none⟩), .string ⟨#[72, 69, 76, 79, 32, 120, 13, 10]⟩] wr (FedIs w.heap.size wr sb most R (feedW most a.s heloX)) := hF2
              rw [← hFH] at hF2
              obtain ⟨O2, hO2⟩ : ∃ O2, O2 = bt FH.2 := ⟨_, rfl⟩
              unfold FedIs at hF2
              rw [← hO2] at hF2
              have hgH := hI.out.gd.feed heloX
              have hwH := feed_wt HW.out.1 hI.out.gd heloX
              have hwI := hI.out.wt
              rw [← hFH] at hgH hwH
              have HH := Lib.hid (And.intro hFH (And.intro hO2 (And.intro hgH (show Sm.wt FH.1 ≤ 6100000 from by have e0 : heloX.length = 8 := rfl; omega))))
              have HF2 := Lib.hid hF2
              obtain ⟨TH, hTH⟩ : ∃ TH, TH = feedW most begin0 heloX := ⟨_, rfl⟩
              have hgT := (gd0 most).feed heloX
              have hwT := feed_wt HW.out.1 (gd0 most) heloX
              rw [← hTH] at hgT hwT
              have HT := Lib.hid (And.intro hTH (And.intro hgT (show Sm.wt TH.1 ≤ 6100000 from by have e0 : heloX.length = 8 := rfl; have e1 : Sm.wt begin0 = 0 := rfl; omega)))
              clear hFH hF2 hO2 hgH hwH hwI hTH hgT hwT hk
              go_wp2_with fail
              refine HF2.out.mono ?_
              rintro e w7 ⟨rfl, hst⟩
              obtain ⟨R7, h7, -, -⟩ := hI.out.two.step hst
              have HF3 := Lib.hid (fedE (chunk := ⟨heloX.toArray⟩) h7.two HW.out.1 (gd0 most) (by decide) (by have e0 : (ByteArray.mk heloX.toArray).size = 8 := rfl; have e1 : Sm.wt begin0 = 0 := rfl; omega) (p := TH) HT.out.1.symm (o := ⟨#[50, 53, 48, 32, 79, 75, 13, 10]⟩) (by rw [HT.out.1, feed_helo0, rep250]; rfl) (b := false) (by rw [HT.out.1, feed_helo0]; rfl))
              have H7 := Lib.hid h7.swap
              clear hst h7
              go_wp2_with fail
              refine HF3.out.mono ?_
              rintro e w8 ⟨rfl, hst⟩
              obtain ⟨T8, h8, -, -⟩ := H7.out.step hst
              have H8 := Lib.hid h8.swap
              clear hst h8
              by_cases hab : O2 = ⟨#[50, 53, 48, 32, 79, 75, 13, 10]⟩
              · have hlw := hello_law most an1 (anL ans) 3100 x.data.toList y.data.toList HX.out.1 (by have := HX.out.2.1; have e0 : x.data.toList.length = x.size := rfl; omega) (by have := HX.out.2.2; have e0 : y.data.toList.length = y.size := rfl; omega)
                simp only [← HW.out.2.2.2.1] at hlw
                rw [HFa.out, ← HH.out.1, ← HT.out.1] at hlw
                have hlw := hlw (by have h9 := HH.out.2.1; rw [hab] at h9; have h9 := congrArg (fun z : ByteArray => z.data.toList) h9; rw [rep250]; exact h9.symm)
                subst hab
                obtain ⟨A1, hA1⟩ : ∃ A1, A1 = chunkW most (anL ans) 3100 ⟨FH.1, [], []⟩ y.data.toList := ⟨_, rfl⟩
                obtain ⟨A2, hA2⟩ : ∃ A2, A2 = chunkW most (anL ans) 3100 ⟨TH.1, [], []⟩ y.data.toList := ⟨_, rfl⟩
                rw [← hA1, ← hA2] at hlw
                obtain ⟨l1, l2, l3⟩ := hlw
                have hIn : ∀ V, Below w.heap.size w V → IntIn .i64 w.heap.size V av ans := fun V hb => HA.out.keeps (fun g hg => hb.block g hg) (Nat.le_refl _)
                have hD1 := drained_any FH.1 y av ans H8.out.one HW.out.1 HH.out.2.2.1 (by have := HX.out.2.2; omega) (by have := HH.out.2.2.2; omega) (hIn _ H8.out.below)
                have hrc := drain_rcp HW.out.1 (anL ans) 3100 ⟨(feedW most FH.1 y.data.toList).1, [] ++ (feedW most FH.1 y.data.toList).2, []⟩ (HH.out.2.2.1.feed _) (fun m e => by cases e)
                change ∀ m ∈ (chunkW most (anL ans) 3100 ⟨FH.1, [], []⟩ y.data.toList).mails, m.rcp.length ≤ 1000000 at hrc
                rw [← hA1] at hD1 hrc
                obtain ⟨U, hU⟩ : ∃ U, U = bt A1.out := ⟨_, rfl⟩
                obtain ⟨M, hM⟩ : ∃ M, M = A1.mails := ⟨_, rfl⟩
                unfold DrnIs at hD1
                rw [← hU, ← hM] at hD1
                have HL := Lib.hid (And.intro l1 (And.intro l2 (And.intro l3 (And.intro hA2 (And.intro hU (And.intro hM (And.intro hIn (And.intro (show ∀ m ∈ M, m.rcp.length ≤ 1000000 from by rw [hM]; exact hrc) (show M.length ≤ 1000000 from by rw [hM, hA1]; exact Nat.le_trans (drain_cnt _ _ _ _) (by show 0 + 3100 ≤ 1000000; decide))))))))))
                have HD1 := Lib.hid hD1
                clear l1 l2 l3 hA1 hA2 hIn hD1 hU hM hrc
                go_wp2_with fail
                refine HD1.out.mono ?_
                rintro e w9 ⟨mv1, rfl, hm1, hst⟩
                obtain ⟨R9, h9, -, -⟩ := H8.out.step hst
                have hbT : ∀ k, T8 k ≠ 0 → k < w8.heap.size := fun k e => (H8.out.two.bnd k e).2
                have hD2 := drained_any TH.1 y av ans h9.two HW.out.1 HT.out.2.1 (by have := HX.out.2.2; omega) (by have := HT.out.2.2; omega) (HL.out.2.2.2.2.2.2.1 _ h9.below)
                rw [← HL.out.2.2.2.1] at hD2
                unfold DrnIs at hD2
                rw [← HL.out.1, ← HL.out.2.1, ← HL.out.2.2.2.2.1, ← HL.out.2.2.2.2.2.1] at hD2
                obtain ⟨p1, c1, rfl, hc1⟩ := hm1.form
                have HD2 := Lib.hid hD2
                have H9 := Lib.hid (And.intro h9.swap (And.intro hm1 (And.intro hbT (Fr.size hst.choose_spec.2.2))))
                clear h9 hm1 hbT hst hD2
                go_wp2_with fail
                refine HD2.out.mono ?_
                rintro e w10 ⟨mv2, rfl, hm2, hst⟩
                obtain ⟨p2, c2, rfl, hc2⟩ := hm2.form
                obtain ⟨T10, h10, x10, f10⟩ := H9.out.1.step hst
                have hm1 : MailsOut w8.heap.size w10 (.slice p1 M.length c1) M := H9.out.2.1.keeps (fun g hg hgl => f10.block g hgl (fun e => by have := H9.out.2.2.1 g e; omega)) f10.size
                obtain ⟨V, hV⟩ : ∃ V, V = A1.s.st.over := ⟨_, rfl⟩
                have hO1 := ses_over h10.two
                have hO2 := ses_over h10.one
                rw [← HL.out.2.2.1, ← hV] at hO2
                rw [← hV] at hO1
                have HO1 := Lib.hid hO1
                have HO2 := Lib.hid hO2
                have HM := Lib.hid (And.intro hm1 (And.intro hm2 h10.below))
                clear hO1 hO2 hV hm1 hm2 h10 x10 f10 hst
                go_wp2_with fail
                refine HO1.out.mono ?_
                rintro e wz ⟨rfl, rfl⟩
                go_wp2_with fail
                refine HO2.out.mono ?_
                rintro e wy ⟨rfl, rfl⟩
                have HN := Lib.hid (And.intro HL.out.2.2.2.2.2.2.2.2 HL.out.2.2.2.2.2.2.2.1)
                go_wp2_with fail
                go_loopg [23] M.length (fun g iv wr => ∃ i : Nat, i + g = M.length ∧ iv = .int .i64 i ∧ Hid (Below wy.heap.size wy wr))
                case atStart => exact ⟨0, by omega, rfl, Below.refl _ _⟩
                case round =>
                  obtain ⟨i, hi, rfl, hbw⟩ := hrel
                  by_cases hl : i < M.length
                  · have u1 : decide ((i : Int) < (M.length : Int)) = true := decide_eq_true (by omega)
                    have u3 : (i : Int) < (M.length : Int) := by omega
                    have u6 : IntKind.i64.wrap ((i : Int) + 1) = (i : Int) + 1 := w64 rfl (by omega) (by have := HN.out.1; omega)
                    obtain ⟨g1, o1, F1, q1, n1, d1, Y1, rfl, E1, -, -, k0, k1, k2⟩ := HM.out.1.at i hl
                    obtain ⟨g2, o2, F2, q2, n2, d2, Y2, rfl, E2, -, -, k3, k4, k5⟩ := HM.out.2.1.at i hl
                    have hbd : Below wy.heap.size wy wr.drew := hbw.out.drew
                    replace E1 := E1.keepsB (Z := fun _ => True) (fun g _ hgl => hbd.block g hgl) hbd.size (fun _ _ _ => trivial)
                    replace E2 := E2.keepsB (Z := fun _ => True) (fun g _ hgl => hbd.block g hgl) hbd.size (fun _ _ _ => trivial)
                    have hsm : Calls Tryz.prog 18 #[.agg #[.string F1, .slice q1 n1 d1, .string Y1], .agg #[.string F2, .slice q2 n2 d2, .string Y2]] wr.drew fun e w' => e = .returned (.bool true) ∧ Below wr.drew.heap.size wr.drew w' := same_any ⟨F1, q1, n1, d1, Y1⟩ ⟨F2, q2, n2, d2, Y2⟩ M[i] E1 E2 (HN.out.2 _ (List.getElem_mem hl))
                    replace k0 := cell_later hbd k0
                    replace k1 := cell_later hbd k1
                    replace k2 := cell_later hbd k2
                    replace k3 := cell_later hbd k3
                    replace k4 := cell_later hbd k4
                    replace k5 := cell_later hbd k5
                    have HSm := Lib.hid (And.intro hsm (And.intro hi (And.intro hl hbd)))
                    have hS0 : Hid ((wr.drew.cell? ⟨g1, o1 + i * 3, none⟩ = some (.string F1) ∧ wr.drew.cell? ⟨g1, o1 + i * 3 + 1, none⟩ = some (.slice q1 n1 d1) ∧ wr.drew.cell? ⟨g1, o1 + i * 3 + 2, none⟩ = some (.string Y1)) ∧ wr.drew.cell? ⟨g2, o2 + i * 3, none⟩ = some (.string F2) ∧ wr.drew.cell? ⟨g2, o2 + i * 3 + 1, none⟩ = some (.slice q2 n2 d2) ∧ wr.drew.cell? ⟨g2, o2 + i * 3 + 2, none⟩ = some (.string Y2)) := ⟨⟨k0, k1, k2⟩, k3, k4, k5⟩
                    clear hsm E1 E2 hbd hi hl k0 k1 k2 k3 k4 k5
                    go_wp2_with fail
                    refine wp_region_heldO (fun V => (V.cell? ⟨g1, o1 + i * 3, none⟩ = some (.string F1) ∧ V.cell? ⟨g1, o1 + i * 3 + 1, none⟩ = some (.slice q1 n1 d1) ∧ V.cell? ⟨g1, o1 + i * 3 + 2, none⟩ = some (.string Y1)) ∧ V.cell? ⟨g2, o2 + i * 3, none⟩ = some (.string F2) ∧ V.cell? ⟨g2, o2 + i * 3 + 1, none⟩ = some (.slice q2 n2 d2) ∧ V.cell? ⟨g2, o2 + i * 3 + 2, none⟩ = some (.string Y2)) 10 (by kernel_rfl) rfl hS0.out (fun hHeld => ?_)
                    refine takeO (v := ?_) 0 rfl (by kernel_rfl) (by kernel_rfl) (by kernel_rfl) (by rfl) ?_ hHeld ?_
                    rotate_left
                    · intro w hSw
                      obtain ⟨⟨hSw0, hSw1, hSw2⟩, hSw3, hSw4, hSw5⟩ := hSw
                      go_simp
                      first | done | with_reducible rfl
                    simp only [Act.put, List.setIfInBounds_toArray, List.set_cons_zero, List.set_cons_succ]
                    refine takeO (v := ?_) 1 rfl (by kernel_rfl) (by kernel_rfl) (by kernel_rfl) (by rfl) ?_ hHeld ?_
                    rotate_left
                    · intro w hSw
                      obtain ⟨⟨hSw0, hSw1, hSw2⟩, hSw3, hSw4, hSw5⟩ := hSw
                      go_simp
                      first | done | with_reducible rfl
                    simp only [Act.put, List.setIfInBounds_toArray, List.set_cons_zero, List.set_cons_succ]
                    refine takeO (v := ?_) 2 rfl (by kernel_rfl) (by kernel_rfl) (by kernel_rfl) (by rfl) ?_ hHeld ?_
                    rotate_left
                    · intro w hSw
                      obtain ⟨⟨hSw0, hSw1, hSw2⟩, hSw3, hSw4, hSw5⟩ := hSw
                      go_simp
                      first | done | with_reducible rfl
                    simp only [Act.put, List.setIfInBounds_toArray, List.set_cons_zero, List.set_cons_succ]
                    refine takeO (v := ?_) 3 rfl (by kernel_rfl) (by kernel_rfl) (by kernel_rfl) (by rfl) ?_ hHeld ?_
                    rotate_left
                    · intro w hSw
                      obtain ⟨⟨hSw0, hSw1, hSw2⟩, hSw3, hSw4, hSw5⟩ := hSw
                      go_simp
                      first | done | with_reducible rfl
                    simp only [Act.put, List.setIfInBounds_toArray, List.set_cons_zero, List.set_cons_succ]
                    refine takeO (v := ?_) 4 rfl (by kernel_rfl) (by kernel_rfl) (by kernel_rfl) (by rfl) ?_ hHeld ?_
                    rotate_left
                    · intro w hSw
                      obtain ⟨⟨hSw0, hSw1, hSw2⟩, hSw3, hSw4, hSw5⟩ := hSw
                      go_simp
                      first | done | with_reducible rfl
                    simp only [Act.put, List.setIfInBounds_toArray, List.set_cons_zero, List.set_cons_succ]
                    refine takeO (v := ?_) 5 rfl (by kernel_rfl) (by kernel_rfl) (by kernel_rfl) (by rfl) ?_ hHeld ?_
                    rotate_left
                    · intro w hSw
                      obtain ⟨⟨hSw0, hSw1, hSw2⟩, hSw3, hSw4, hSw5⟩ := hSw
                      go_simp
                      first | done | with_reducible rfl
                    simp only [Act.put, List.setIfInBounds_toArray, List.set_cons_zero, List.set_cons_succ]
                    refine takeO (v := ?_) 6 rfl (by kernel_rfl) (by kernel_rfl) (by kernel_rfl) (by rfl) ?_ hHeld ?_
                    rotate_left
                    · intro w hSw
                      obtain ⟨⟨hSw0, hSw1, hSw2⟩, hSw3, hSw4, hSw5⟩ := hSw
                      go_simp
                      first | done | with_reducible rfl
                    simp only [Act.put, List.setIfInBounds_toArray, List.set_cons_zero, List.set_cons_succ]
                    refine takeO (v := ?_) 7 rfl (by kernel_rfl) (by kernel_rfl) (by kernel_rfl) (by rfl) ?_ hHeld ?_
                    rotate_left
                    · intro w hSw
                      obtain ⟨⟨hSw0, hSw1, hSw2⟩, hSw3, hSw4, hSw5⟩ := hSw
                      go_simp
                      first | done | with_reducible rfl
                    simp only [Act.put, List.setIfInBounds_toArray, List.set_cons_zero, List.set_cons_succ]
                    refine callO (f := 18) (args := #[.agg #[.string F1, .slice q1 n1 d1, .string Y1], .agg #[.string F2, .slice q2 n2 d2, .string Y2]]) 8 rfl (by kernel_rfl) (by rfl) (by go_simp) (HSm.out.1.mono ?_)
                    rintro e w11 ⟨rfl, hbs⟩
                    have hS9 : (w11.cell? ⟨g1, o1 + i * 3, none⟩ = some (.string F1) ∧ w11.cell? ⟨g1, o1 + i * 3 + 1, none⟩ = some (.slice q1 n1 d1) ∧ w11.cell? ⟨g1, o1 + i * 3 + 2, none⟩ = some (.string Y1)) ∧ w11.cell? ⟨g2, o2 + i * 3, none⟩ = some (.string F2) ∧ w11.cell? ⟨g2, o2 + i * 3 + 1, none⟩ = some (.slice q2 n2 d2) ∧ w11.cell? ⟨g2, o2 + i * 3 + 2, none⟩ = some (.string Y2) := by
                      obtain ⟨⟨k0, k1, k2⟩, k3, k4, k5⟩ := hHeld
                      exact ⟨⟨cell_later hbs k0, cell_later hbs k1, cell_later hbs k2⟩, cell_later hbs k3, cell_later hbs k4, cell_later hbs k5⟩
                    have HBs := Lib.hid (HSm.out.2.2.2.trans (hbs.mono HSm.out.2.2.2.size))
                    clear hbs hHeld
                    refine ⟨_, rfl, hS9, ?_⟩
                    simp only [Act.put, List.setIfInBounds_toArray, List.set_cons_zero, List.set_cons_succ]
                    refine stepO (w' := w11) (v := .bool false) 9 rfl (by kernel_rfl) (by rfl) (by go_simp) hS9 ?_
                    simp only [Act.put, List.setIfInBounds_toArray, List.set_cons_zero, List.set_cons_succ]
                    refine doneO (by kernel_rfl) ?_
                    clear hS9 hS0
                    go_wp2
                    go_roundg (M.length - (i + 1))
                    case rel => exact ⟨i + 1, by have := HSm.out.2.2.1; omega, rfl, HBs.out⟩
                    case measure => have := HSm.out; omega
                  · have u1 : decide ((i : Int) < (M.length : Int)) = false := decide_eq_false (by omega)
                    have u2 : decide (i < M.length) = false := decide_eq_false hl
                    clear hi hl
                    go_wp2
                    go_ret
                    exact ⟨rfl, HM.out.2.2.trans (hbw.out.mono HM.out.2.2.size)⟩
              · have hab2 : (O2.toList = [50, 53, 48, 32, 79, 75, 13, 10]) = False := by
                  rw [eq_iff_iff, iff_false]
                  intro e
                  rw [Lib.toList_data] at e
                  exact hab (by cases O2 with | mk d => cases d with | mk l => exact congrArg (fun z => ByteArray.mk (Array.mk z)) e)
                have hab3 : (O2.toList == [50, 53, 48, 32, 79, 75, 13, 10]) = false := by rw [beq_eq_false_iff_ne]; intro e; rw [hab2] at e; exact e
                clear hab
                go_wp2
                go_ret
                exact ⟨rfl, H8.out.below⟩
        · have u4 : ((x[x.size - 1].toNat : Int) != 10) = true := by
            rw [bne_iff_ne]
            intro e
            exact hL (UInt8.toNat_inj.1 (by rw [show (10 : UInt8).toNat = 10 from rfl]; omega))
          clear hx3 hy3 hx0
          go_wp2
          go_ret
          exact ⟨rfl, HB1.out⟩
end
end Go.Proofs.YtjoipgekmnnlpaaGreatDoor
