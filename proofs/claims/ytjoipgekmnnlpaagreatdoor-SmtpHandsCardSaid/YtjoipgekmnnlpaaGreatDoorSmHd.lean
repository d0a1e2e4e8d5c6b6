/- Walks: chapter 22's law functions: SmtpHands. -/
import Derived.Test.YtjoipgekmnnlpaaGreatDoorSmKp
import Derived.Test.YtjoipgekmnnlpaaGreatDoorSmSt
namespace Sm
open Go Lx C1

/-- the distinct addresses of the first numbers -/
def adrs (ns : List Int) (i : Nat) : List (List UInt8) := ((ns.take i).map fun z => adr z.toNat).foldl addA []
theorem adrs_succ (ns : List Int) (i : Nat) (h : i < ns.length) : adrs ns (i + 1) = addA (adrs ns i) (adr ns[i].toNat) := by
  unfold adrs
  rw [List.take_succ_eq_append_getElem h, List.map_append, List.foldl_append]
  rfl
theorem addA_len (L : List (List UInt8)) (a : List UInt8) : (addA L a).length ≤ L.length + 1 ∧ addA L a ≠ [] := by
  unfold addA
  split
  · rename_i h
    exact ⟨by omega, fun e => by rw [e] at h; cases h⟩
  · exact ⟨by simp, by simp⟩
theorem adrs_len (ns : List Int) : ∀ i, i ≤ ns.length → (adrs ns i).length ≤ i
  | 0, _ => by unfold adrs; simp
  | i + 1, h => by
    rw [adrs_succ ns i h]
    have h1 := adrs_len ns i (by omega)
    have h2 := (addA_len (adrs ns i) (adr ns[i].toNat)).1
    omega
theorem adrs_ne (ns : List Int) (h : 0 < ns.length) : adrs ns ns.length ≠ [] := by
  obtain ⟨k, hk⟩ : ∃ k, ns.length = k + 1 := ⟨ns.length - 1, by omega⟩
  rw [hk, adrs_succ ns k (by omega)]
  exact (addA_len _ _).2
/-- a line has its line feed at its end alone -/
theorem linN_free (l : List UInt8) : ∀ x ∈ linN l, x.dropLast.contains 10 = false := by
  refine lin_rec (P := fun l => ∀ x ∈ linN l, x.dropLast.contains 10 = false) (fun x hx => by cases hx) (fun l hne ih x hx => ?_) l
  rw [linN_cons l hne] at hx
  rcases List.mem_cons.1 hx with rfl | hx
  · cases hc : l.contains 10 with
    | true =>
      rw [lnL_yes l hc, List.dropLast_concat]
      exact lnL_free l hc
    | false =>
      rw [lnL_no l hc, List.take_length]
      rw [Bool.eq_false_iff]
      intro e
      have := (List.dropLast_sublist l).subset (List.contains_iff_mem.1 e)
      rw [List.contains_iff_mem.2 this] at hc
      cases hc
  · exact ih x hx
theorem lineT_of {l x : List UInt8} (h : x ∈ linN l) (h1 : x.length ≤ 992) (_h2 : 2 ≤ x.length) (h3 : x.drop (x.length - 2) = [13, 10]) : LineT x := by
  have hf := linN_free l x h
  have e : x = x.take (x.length - 2) ++ [13] ++ [10] := by
    conv => lhs; rw [← List.take_append_drop (x.length - 2) x, h3]
    simp
  refine ⟨⟨x.take (x.length - 2), e, ?_⟩, h1⟩
  rw [e, List.dropLast_concat] at hf
  rw [Bool.eq_false_iff] at hf ⊢
  intro hh
  exact hf (List.contains_iff_mem.2 (List.mem_append_left _ (List.contains_iff_mem.1 hh)))
theorem wt_ses (st : Ses) (h : st.waits = false) (hb : st.body = none) : Sm.wt ⟨st, [], []⟩ = 0 := by
  unfold Sm.wt wtS
  rw [h, hb]
  rfl
theorem gd_fed {most : Nat} {s : Whl} {c : List UInt8} {p : Whl × List UInt8} (h : Gd most s) (e : feedW most s c = p) : Gd most p.1 := by rw [← e]; exact h.feed c
end Sm
namespace Go.Proofs.YtjoipgekmnnlpaaGreatDoor
open Go.RowKit Go.Shelf Go.Lib Pk Sm

section
variable {G B : Nat} {w w' V : World} {sb most : Nat} {s : Whl} {R R' : Roles}
/-- the addresses so far, in a slice of the call's own -/
def AllAt (w : World) (B : Nat) (R : Roles) (v : Value) (L : List (List UInt8)) : Prop := ownsG txL w B 9 v (L.map bt) ∧ ∀ k, v.ownBlock = some k → R k = 0
theorem AllAt.step {v : Value} {L : List (List UInt8)} (h : AllAt w B R v L) (hE : Ext w R R') (f : Fr (In R) w w') : AllAt w' B R' v L := by
  have hl : ∀ k, v.ownBlock = some k → k < w.heap.size := fun k e => (World.ownsRow.lt h.1 k e).2
  exact ⟨ownsG.kept h.1 fun g e => f.block g (hl g e) fun e' => e' (h.2 g e), fun k e => (hE k (hl k e)).trans (h.2 k e)⟩
theorem AllAt.below {v : Value} {L : List (List UInt8)} (h : AllAt w B R v L) (hb : Below w.heap.size w w') : AllAt w' B R v L := h.step (Ext.refl _ _) (Fr.of_below hb)
theorem AllAt.rcp {v : Value} {L : List (List UInt8)} (h : AllAt w B R v L) : ∃ p c, v = .slice p L.length c ∧ L.length ≤ c ∧ RcpC w p (L.map bt) := by
  obtain ⟨p, c, e, h1, h2⟩ := h.1.reads (X := fun _ => True) (fun _ _ => trivial)
  rw [List.length_map] at e h1
  refine ⟨p, c, e, h1, ?_⟩
  rcases h2 with h2 | ⟨g, o, h4, -, -, h5⟩
  · exact .inl h2
  · exact .inr ⟨g, o, h4, fun j hj => by have := h5 j hj 0 (.string (L.map bt)[j]) rfl; rw [show j * txL.k = j from Nat.mul_one j] at this; exact this⟩
/-- the session between two messages -/
def HdI (w : World) (sb most : Nat) (st : Ses) (R : Roles) (V : World) : Prop := SesAt w.heap.size V sb most ⟨st, [], []⟩ R ∧ Below w.heap.size w V
theorem HdI.step {st st' : Ses} (h : HdI w sb most st R w') (hs : Stp w.heap.size w' sb most R V ⟨st', [], []⟩) : ∃ R', HdI w sb most st' R' V ∧ Ext w' R R' ∧ Fr (In R) w' V := by
  obtain ⟨R', s1, s2, s3⟩ := hs
  exact ⟨R', ⟨s1, Fr.below h.2 h.2.size (fun k e => (h.1.bnd k e).1) s3⟩, s2, s3⟩
theorem HdI.below {st : Ses} (h : HdI w sb most st R w') (hb : Below w'.heap.size w' V) : HdI w sb most st R V := ⟨h.1.below hb, h.2.trans (hb.mono h.2.size)⟩
/-- an append to the list beside the session -/
theorem HdI.app {st : Ses} {v v3 : Value} {w3 W : World} {L : List (List UInt8)} {a : List UInt8} (h : HdI w sb most st R w') (hA : AllAt w' w.heap.size R v L) (hb : Below w'.heap.size w' W) (h3 : ownsG txL w3 w.heap.size 9 v3 (L.map bt ++ [bt a])) (hg : W.grownBy w3 v.ownBlock) (hn : NewOwn W v v3) : HdI w sb most st R w3 ∧ AllAt w3 w.heap.size R v3 (L ++ [a]) := by
  have hf : Fr (fun k => v.ownBlock = some k) w' w3 := (Fr.of_below hb).grown hg (fun r e => .inl e)
  have hl : ∀ k, v.ownBlock = some k → w.heap.size ≤ k := fun k e => (World.ownsRow.lt hA.1 k e).1
  refine ⟨⟨h.1.kept (h.1.ctx.fr (X := fun k => v.ownBlock = some k) hl hf) (fun k hk hR => hf.block k hk fun e => hR (hA.2 k e)) hf.size, Fr.below h.2 h.2.size hl hf⟩, ?_, fun k e => ?_⟩
  · rw [List.map_append]; exact h3
  · rcases hn with e' | e'
    · exact hA.2 k (by rw [← e']; exact e)
    · by_cases hx : R k = 0
      · exact hx
      · have := (h.1.bnd k hx).2; have := e' k e; have := hb.size; omega
/-- a line that is fed -/
theorem HdI.fed {st st' : Ses} {o : List UInt8} {O : ByteArray} {b : Bool} (h : HdI w sb most st R w') (hm : most ≤ 65536) (hg : Gd most ⟨st, [], []⟩) (hw : Sm.wt ⟨st, [], []⟩ ≤ 1000000) (X : ByteArray) (l : List UInt8) (hX : X.data.toList = l) (hl : X.size ≤ 20000) (he : feedW most ⟨st, [], []⟩ l = (⟨st', [], []⟩, o)) (ho : bt o = O) (hb : st'.waits = b) :
    Calls Tryz.prog 14 #[.pointer (some ⟨sb, 0, none⟩), .string X] w' fun e V => e = .returned (.tuple #[.string O, .bool b]) ∧ ∃ R', HdI w sb most st' R' V ∧ Ext w' R R' ∧ Fr (In R) w' V := by
  refine (fedE h.1 hm hg X (by omega) (by omega) (p := (⟨st', [], []⟩, o)) (by rw [hX]; exact he) ho hb).mono ?_
  rintro e V ⟨rfl, hs⟩
  exact ⟨rfl, h.step hs⟩
theorem u16_of_wf {n : Int} (h : (Lit.int .u16 n).wf = true) : 0 ≤ n ∧ n ≤ 65535 := by
  simp [Lit.wf, IntKind.min, IntKind.max, IntKind.signed, IntKind.bits] at h
  omega
theorem rep354 : repW 354 = [51, 53, 52, 32, 83, 116, 97, 114, 116, 32, 109, 97, 105, 108, 32, 105, 110, 112, 117, 116, 13, 10] := by decide +kernel
theorem rep552 : repW 552 = [53, 53, 50, 32, 77, 101, 115, 115, 97, 103, 101, 32, 115, 105, 122, 101, 32, 101, 120, 99, 101, 101, 100, 115, 32, 108, 105, 109, 105, 116, 13, 10] := by decide +kernel
def LnOk (x : ByteArray) : Prop := x.size ≤ 992 ∧ 2 ≤ x.size ∧ x.extract (x.size - 2) x.size = ⟨#[13, 10]⟩
set_option maxHeartbeats 4000000 in
set_option maxRecDepth 100000 in
theorem smtpHands_any (m0 many : Int) (x : ByteArray) (tv : Value) (ns : List Int) (hC : Ctx G w) (hA : IntIn .u16 w.heap.size w tv ns) (hu : ∀ n ∈ ns, (Lit.int .u16 n).wf = true) : Calls Tryz.prog 7 #[.int .i64 m0, .string x, tv, .int .i64 many] w fun e w' => e = .returned (.bool true) ∧ Below w.heap.size w w' := by
  have HC := Lib.hid (Ctx.self hC)
  have HS := Lib.hid (small_any w hC)
  obtain ⟨pT, cT, rfl, hcT, hA2⟩ := hA
  have HA := Lib.hid (And.intro hA2 hu)
  clear hC hA2 hu
  obtain ⟨nt, hnt⟩ : ∃ nt, nt = ns.length := ⟨_, rfl⟩
  rw [← hnt] at hcT ⊢
  have HNt := Lib.hid hnt
  clear hnt
  go_enter Tryz.func7, Tryz.ntmps7
  go_wp2_with fail
  refine HS.out.mono ?_
  rintro e w1 ⟨rfl, hb1⟩
  have HB1 := Lib.hid hb1
  clear hb1
  by_cases hx : x.size ≤ 4000 ∧ 1 ≤ nt ∧ nt ≤ 16 ∧ 1 ≤ many ∧ many ≤ 4
  · obtain ⟨x1, x2, x3, x4, x5⟩ := hx
    have u1 : decide (4000 < (x.size : Int)) = false := decide_eq_false (by omega)
    have u2 : decide ((nt : Int) < 1) = false := decide_eq_false (by omega)
    have u3 : decide (16 < (nt : Int)) = false := decide_eq_false (by omega)
    have u4 : decide (many < 1) = false := decide_eq_false (by omega)
    have u5 : decide (4 < many) = false := decide_eq_false (by omega)
    obtain ⟨q, hq⟩ := (HC.out.below HB1.out).max
    have HSp := Lib.hid (split_any x w1 (by omega) q hq)
    have HX := Lib.hid (And.intro x1 (And.intro x2 (And.intro x3 (And.intro x4 x5))))
    clear x1 x2 x3 x4 x5 hq
    go_wp2_with fail
    refine HSp.out.mono ?_
    rintro e w2 ⟨rv, rfl, hrv, hb2⟩
    obtain ⟨pr, cr, rfl, hcr, hrc⟩ := ownsS.rcp hrv
    have HR := Lib.hid hrc
    have HB2 := Lib.hid (HB1.out.trans (hb2.mono HB1.out.size))
    clear hrv hb2 hrc
    have hll := linB_len x
    obtain ⟨Ls, hLs⟩ : ∃ Ls, Ls = linB x := ⟨_, rfl⟩
    rw [← hLs] at hcr hll HR ⊢
    have HLs := Lib.hid (And.intro hLs hll)
    clear hLs hll
    go_wp2_with fail
    go_loopg [11] Ls.length (fun g iv wr => ∃ i : Nat, i + g = Ls.length ∧ iv = .int .i64 i ∧ Hid (∀ y ∈ Ls.take i, LnOk y) ∧ Hid (Below w2.heap.size w2 wr))
    case atStart => exact ⟨0, by omega, rfl, fun y hy => (by cases hy), Below.refl _ _⟩
    case round =>
      obtain ⟨i, hi, rfl, hok, hbw⟩ := hrel
      by_cases hl : i < Ls.length
      · have u6 : decide ((i : Int) < (Ls.length : Int)) = true := decide_eq_true (by omega)
        have u7 : (i : Int) < (Ls.length : Int) := by omega
        have hLl := HLs.out.2
        have hx1 := HX.out.1
        have u8 : IntKind.i64.wrap ((i : Int) + 1) = (i : Int) + 1 := w64 rfl (by omega) (by omega)
        rcases HR.out with hp | ⟨g, o, rfl, hcell⟩
        · rw [hp] at hl; cases hl
        · have hy := cell_later hbw.out (hcell i hl)
          have hlm : Ls[i] ∈ linB x := by rw [← HLs.out.1]; exact List.getElem_mem hl
          have hys := (linB_mem hlm).2
          obtain ⟨Y, hY⟩ : ∃ Y, Y = Ls[i] := ⟨_, rfl⟩
          rw [← hY] at hy hys
          have HI := Lib.hid (And.intro hi (And.intro hl (And.intro hY hbw.out)))
          clear hlm hLl hx1 hY hcell hi hbw
          by_cases hy1 : 992 < Y.size
          · have v1 : decide (992 < (Y.size : Int)) = true := decide_eq_true (by omega)
            clear hy1 hys
            go_wp2_with fail
            go_quiet (fail)
            have hbq : Below w2.heap.size w2 (wr.drewN nq) := HI.out.2.2.2.trans ⟨rfl, rfl, rfl, Nat.le_refl _, fun _ _ => rfl⟩
            generalize wr.drewN nq = wq at *
            go_wp2_with fail
            go_ret
            exact ⟨rfl, HB2.out.trans (hbq.mono HB2.out.size)⟩
          · have v1 : decide (992 < (Y.size : Int)) = false := decide_eq_false (by omega)
            by_cases hy2 : Y.size < 2
            · have v2 : decide ((Y.size : Int) < 2) = true := decide_eq_true (by omega)
              clear hy1 hys hy2
              go_wp2_with fail
              go_quiet (fail)
              have hbq : Below w2.heap.size w2 (wr.drewN nq) := HI.out.2.2.2.trans ⟨rfl, rfl, rfl, Nat.le_refl _, fun _ _ => rfl⟩
              generalize wr.drewN nq = wq at *
              go_wp2_with fail
              go_ret
              exact ⟨rfl, HB2.out.trans (hbq.mono HB2.out.size)⟩
            · have v2 : decide ((Y.size : Int) < 2) = false := decide_eq_false (by omega)
              have v3 : IntKind.i64.wrap ((Y.size : Int) - 2) = (Y.size : Int) - 2 := w64 rfl (by omega) (by omega)
              have v4 : (0 : Int) ≤ (Y.size : Int) - 2 := by omega
              have v5 : (Y.size : Int) - 2 ≤ (Y.size : Int) := by omega
              have HY := Lib.hid (And.intro hy1 hy2)
              clear hy1 hys hy2
              by_cases hy3 : Y.extract (Y.size - 2) Y.size = ⟨#[13, 10]⟩
              · have HG3 := Lib.hid (show LnOk Y from ⟨by have := HY.out.1; omega, by have := HY.out.2; omega, hy3⟩)
                go_wp2_with fail
                go_quiet (fail)
                have hbq : Below w2.heap.size w2 (wr.drewN nq) := HI.out.2.2.2.trans ⟨rfl, rfl, rfl, Nat.le_refl _, fun _ _ => rfl⟩
                generalize wr.drewN nq = wq at *
                go_wp2_with fail
                go_roundg (Ls.length - (i + 1))
                case rel =>
                  refine ⟨i + 1, by have := HI.out; omega, rfl, fun y hy => ?_, hbq⟩
                  rw [List.take_succ_eq_append_getElem HI.out.2.1] at hy
                  rcases List.mem_append.1 hy with hy | hy
                  · exact hok.out y hy
                  · rw [List.mem_singleton.1 hy, ← HI.out.2.2.1]; exact HG3.out
                case measure => have := HI.out; omega
              · obtain ⟨E3, hE3⟩ : ∃ E3, Y.extract (Y.size - 2) Y.size = E3 := ⟨_, rfl⟩
                have hE4 : (E3.toList == [13, 10]) = false := by
                  rw [beq_eq_false_iff_ne, Lib.toList_data]
                  intro e
                  exact hy3 (by rw [hE3, ← bt_back E3, e]; rfl)
                have hE5 : (E3.toList = [13, 10]) = False := by
                  rw [eq_iff_iff, iff_false]
                  intro e
                  rw [e] at hE4
                  simp at hE4
                clear hy3
                go_wp2_with fail
                go_quiet (fail)
                have hbq : Below w2.heap.size w2 (wr.drewN nq) := HI.out.2.2.2.trans ⟨rfl, rfl, rfl, Nat.le_refl _, fun _ _ => rfl⟩
                generalize wr.drewN nq = wq at *
                go_wp2_with fail
                go_ret
                exact ⟨rfl, HB2.out.trans (hbq.mono HB2.out.size)⟩
      · have u6 : decide ((i : Int) < (Ls.length : Int)) = false := decide_eq_false (by omega)
        have u7 : decide (i < Ls.length) = false := decide_eq_false hl
        have hT : ∀ l ∈ Lx.linN x.data.toList, LineT l := fun l hlm => by
          have h1 : bt l ∈ Ls := by rw [HLs.out.1]; exact List.mem_map_of_mem hlm
          obtain ⟨a1, a2, a3⟩ := hok.out (bt l) (by rw [List.take_of_length_le (by omega)]; exact h1)
          have hs : (bt l).size = l.length := (bt_ex _).elim fun A e => by rw [← e.1]; exact e.2.2
          refine lineT_of hlm (by omega) (by omega) ?_
          have h9 := congrArg (fun z : ByteArray => z.data.toList) a3
          simp only at h9
          rw [ext_from, bt_data, hs] at h9
          exact h9
        have HT := Lib.hid hT
        have HB3 := Lib.hid (HB2.out.trans (hbw.out.mono HB2.out.size))
        have HN := Lib.hid (ses_new m0 (HC.out.below (HB2.out.trans (hbw.out.mono HB2.out.size))))
        have hmm : min (max m0 1) 65536 = ((clampM m0 : Nat) : Int) := by unfold clampM; omega
        have hm := (clampM_le m0).2
        clear hT hok hbw hi hl HSp
        go_wp2_with fail
        refine HN.out.mono ?_
        rintro e w5 ⟨sb, R5, rfl, hs5, hR5, hb5⟩
        have h5 : HdI w sb (clampM m0) new0 R5 w5 := ⟨hs5, HB3.out.trans (hb5.mono HB3.out.size)⟩
        clear hs5 hR5 hb5 HN
        generalize clampM m0 = most at *
        obtain ⟨O1, hO1⟩ : ∃ O1, bt (ehloL most ++ repW 250) = O1 := ⟨_, rfl⟩
        have hO1n : O1 ≠ ⟨#[]⟩ := fun e => by
          rw [← hO1] at e
          have e := congrArg (fun z : ByteArray => z.data.toList) e
          have e : ehloL most ++ repW 250 = [] := e
          exact rep_ne 250 (List.append_eq_nil_iff.1 e).2
        obtain ⟨e1, e2, e3⟩ := str_lit hO1n
        have hgr : Gd most ⟨rdy false, [], []⟩ := gd_fed (gd0 most) (talk_ehlo most)
        have HF1 := Lib.hid (h5.fed hm (gd0 most) (by decide) ⟨#[69, 72, 76, 79, 32, 120, 13, 10]⟩ (ehloX ++ [10]) rfl (by decide) (talk_ehlo most) hO1 rfl)
        have HM := Lib.hid (And.intro hm hgr)
        have Hmm := Lib.hid hmm
        clear h5 hO1 hO1n e3 hm hgr hmm
        go_wp2_with fail
        refine HF1.out.mono ?_
        rintro e w6 ⟨rfl, R6, h6, -, -⟩
        have hI0 : Hid (∃ R, HdI w sb most (rdy false) R w6) := ⟨R6, h6⟩
        clear h6
        go_wp2_with fail
        go_loopg [15] many.toNat (fun g nv wr => ∃ n : Nat, n + g = many.toNat ∧ nv = .int .i64 n ∧ Hid (∃ R, HdI w sb most (rdy false) R wr))
        case atStart => exact ⟨0, by omega, rfl, hI0⟩
        case round =>
          clear hI0
          obtain ⟨n, hn, rfl, hI⟩ := hrel
          have hman := HX.out.2.2.2
          by_cases hnl : (n : Int) < many
          · have u8 : decide ((n : Int) < many) = true := decide_eq_true hnl
            have u9 : IntKind.i64.wrap ((n : Int) + 1) = (n : Int) + 1 := w64 rfl (by omega) (by omega)
            obtain ⟨R7, h7⟩ := hI.out
            have HF2 := Lib.hid (h7.fed HM.out.1 HM.out.2 (by rw [wt_ses _ rfl rfl]; decide) ⟨#[77, 65, 73, 76, 32, 70, 82, 79, 77, 58, 60, 97, 64, 98, 62, 13, 10]⟩ (mailX ++ [10]) rfl (by decide) (talk_mail most false) (O := ⟨#[50, 53, 48, 32, 79, 75, 13, 10]⟩) (by rw [rep250]; rfl) rfl)
            have hgs : Gd most ⟨sent false [], [], []⟩ := gd_fed HM.out.2 (talk_mail most false)
            have Hn := Lib.hid (And.intro hn (And.intro hman hnl))
            have HG := Lib.hid hgs
            clear hn hnl h7 hgs hman
            go_wp2_with fail
            refine HF2.out.mono ?_
            rintro e w8 ⟨rfl, R8, h8, -, -⟩
            have hJ0 : Hid (HdI w sb most (sent false (adrs ns 0)) R8 w8 ∧ AllAt w8 w.heap.size R8 (.slice none 0 0) (adrs ns 0) ∧ Gd most ⟨sent false (adrs ns 0), [], []⟩) := ⟨h8, ⟨ownsG.nil _ _ _ _, fun k e => by cases e⟩, HG.out⟩
            clear h8 HG
            go_wp2_with fail
            go_loopg [19, 20] nt (fun g av iv wr => ∃ (i : Nat) (R : Roles), i + g = nt ∧ iv = .int .i64 i ∧ Hid (HdI w sb most (sent false (adrs ns i)) R wr ∧ AllAt wr w.heap.size R av (adrs ns i) ∧ Gd most ⟨sent false (adrs ns i), [], []⟩))
            case atStart => exact ⟨0, R8, by omega, rfl, hJ0⟩
            case round =>
              clear hJ0 HF2
              obtain ⟨i, R, hi, rfl, hJ⟩ := hrel
              obtain ⟨p9, c9, rfl, hc9, hr9⟩ := hJ.out.2.1.rcp
              by_cases hl : i < nt
              · have v1 : decide ((i : Int) < (nt : Int)) = true := decide_eq_true (by omega)
                have v2 : (i : Int) < (nt : Int) := by omega
                have hx3 := HX.out.2.2.1
                have v3 : IntKind.i64.wrap ((i : Int) + 1) = (i : Int) + 1 := w64 rfl (by omega) (by omega)
                have hli : i < ns.length := by rw [← HNt.out]; exact hl
                obtain ⟨Lq, hLq⟩ : ∃ Lq, Lq = adrs ns i := ⟨_, rfl⟩
                have hsc := adrs_succ ns i hli
                have hal := adrs_len ns i (by omega)
                rw [← hLq] at hJ hc9 hr9 hsc hal ⊢
                obtain ⟨z, hz⟩ : ∃ z, z = ns[i] := ⟨_, rfl⟩
                have hz16 := u16_of_wf (HA.out.2 _ (List.getElem_mem hli))
                rcases HA.out.1 with hA0 | ⟨gA, oA, hgA, rfl, hcA⟩
                · rw [hA0] at hli; cases hli
                · have hx : wr.cell? ⟨gA, oA + i, none⟩ = some (.int .u16 ns[i]) := (World.cell?_of_block (hJ.out.1.2.block gA hgA)).trans (hcA i hli)
                  rw [← hz] at hx hz16 hsc
                  have v4 : IntKind.i64.wrap z = z := w64 rfl (by omega) (by omega)
                  obtain ⟨N, hN⟩ : ∃ N, N = z.toNat := ⟨_, rfl⟩
                  have hNz : (N : Int) = z := by omega
                  rw [← hN] at hsc
                  obtain ⟨o1, o2, o3⟩ := adr_ok N (by omega)
                  have oL := adr_len N (by omega)
                  have hTx := text_any z wr (by omega) (by omega) hJ.out.1.1.ctx.tab
                  obtain ⟨Tx, hTx1⟩ : ∃ Tx : ByteArray, Tx = ⟨(Lib.itoa z).toArray⟩ := ⟨_, rfl⟩
                  have hTl : Tx.data.toList = Lib.itoa (N : Int) := by rw [hTx1, hNz]
                  have hTs : Tx.size ≤ 30 := by
                    have e : Tx.data.toList.length = Tx.size := rfl
                    unfold adr at oL
                    rw [List.length_append, List.length_append] at oL
                    rw [← e, hTl]; omega
                  rw [← hTx1] at hTx
                  have hF : ∀ V R, HdI w sb most (sent false Lq) R V → ∀ X : ByteArray, X.data.toList = rcptX (adr N) ++ [10] → Calls Tryz.prog 14 #[.pointer (some ⟨sb, 0, none⟩), .string X] V fun e V' => e = .returned (.tuple #[.string ⟨#[50, 53, 48, 32, 79, 75, 13, 10]⟩, .bool false]) ∧ ∃ R', HdI w sb most (sent false (addA Lq (adr N))) R' V' ∧ Ext V R R' ∧ Fr (In R) V V' := fun V R h X hX => h.fed HM.out.1 hJ.out.2.2 (by rw [wt_ses _ rfl rfl]; decide) X _ hX (by
                      have e : X.data.toList.length = X.size := rfl
                      rw [← e, hX]
                      unfold rcptX
                      simp only [List.length_append, List.length_cons, List.length_nil]
                      omega) (talk_rcpt most false Lq (adr N) o1 o2 o3 (by omega)) (by rw [rep250]; rfl) rfl
                  have hg2 : Gd most ⟨sent false (addA Lq (adr N)), [], []⟩ := gd_fed hJ.out.2.2 (talk_rcpt most false Lq (adr N) o1 o2 o3 (by omega))
                  have hH : ∀ V, RcpC V p9 (Lq.map bt) → Calls Tryz.prog 27 #[.slice p9 Lq.length c9, .string (bt (adr N))] V fun e V' => e = .returned (.bool (Lq.contains (adr N))) ∧ V' = V := fun V hV => by
                    have h9 := has_any (w := V) p9 c9 (Lq.map bt) (bt (adr N)) hV (by rw [List.length_map]; omega)
                    rw [List.length_map, bt_map_mem] at h9
                    exact h9
                  have v5 : ¬ 9223372036854775807 < 1 + Tx.size := by omega
                  have v6 : ¬ 9223372036854775807 < 1 + Tx.size + 1 := by omega
                  have v7 : ¬ 9223372036854775807 < 1 + Tx.size + 1 + 1 := by omega
                  have v8 : ¬ 9223372036854775807 < 9 + (1 + Tx.size + 1 + 1) := by omega
                  have v9 : ¬ 9223372036854775807 < 9 + (1 + Tx.size + 1 + 1) + 3 := by omega
                  have HR9 := Lib.hid (And.intro hi (And.intro hl (And.intro hsc (And.intro hTl (And.intro hg2 (And.intro hal (And.intro hF (And.intro hH (And.intro hr9 hLq)))))))))
                  have HTx := Lib.hid hTx
                  have HZ := Lib.hid hTs
                  clear hTx hTx1 hTl hTs hF hH hr9 hg2 o1 o2 o3 oL hNz hN hz hz16 hcA hsc hal hLq hli hl hi hx3
                  go_wp2_with fail
                  refine HTx.out.mono ?_
                  rintro e wa ⟨rfl, hba⟩
                  have hJa := And.intro (hJ.out.1.below hba) (hJ.out.2.1.below hba)
                  have HJa := Lib.hid hJa
                  clear hba hJa
                  go_wp2_with fail
                  obtain ⟨AD, hAD⟩ : ∃ AD, AD = bt (adr N) := ⟨_, rfl⟩
                  have hADe : (⟨#[114]⟩ ++ Tx ++ ⟨#[64]⟩ ++ ⟨#[100]⟩ : ByteArray) = AD := by
                    rw [hAD, ← bt_back (⟨#[114]⟩ ++ Tx ++ ⟨#[64]⟩ ++ ⟨#[100]⟩ : ByteArray)]
                    congr 1
                    simp only [ByteArray.data_append, Array.toList_append, HR9.out.2.2.2.1]
                    unfold adr
                    simp
                  rw [hADe]
                  refine (HR9.out.2.2.2.2.2.2.1 _ _ HJa.out.1 _ ?_).mono ?_
                  · rw [hAD]
                    simp only [ByteArray.data_append, Array.toList_append, bt_data]
                    unfold rcptX
                    simp
                  rintro e wb ⟨rfl, Rb, hb, xb, fb⟩
                  have hAb := HJa.out.2.step xb fb
                  have hHs := HR9.out.2.2.2.2.2.2.2.1 wb (by
                    obtain ⟨p, c, e, -, hr⟩ := hAb.rcp
                    injection e with e1 e2 e3
                    subst e1
                    exact hr)
                  rw [← hAD] at hHs
                  have HAb := Lib.hid (And.intro hb hAb)
                  have HAD := Lib.hid hAD
                  have hmon := HR9.out.2.2.1
                  have hg2 := HR9.out.2.2.2.2.1
                  unfold addA at hmon hb hg2
                  cases hcn : Lq.contains (adr N) with
                  | true =>
                    rw [hcn, if_pos rfl] at hmon hb hg2
                    rw [hcn] at hHs
                    have hJn : Hid (HdI w sb most (sent false (adrs ns (i + 1))) Rb wb ∧ AllAt wb w.heap.size Rb (.slice p9 Lq.length c9) (adrs ns (i + 1)) ∧ Gd most ⟨sent false (adrs ns (i + 1)), [], []⟩) := by rw [hmon]; exact ⟨hb, hAb, hg2⟩
                    have HHs := Lib.hid hHs
                    clear hmon hb hg2 hAb hHs xb fb hADe hAD hcn
                    go_wp2_with fail
                    refine HHs.out.mono ?_
                    rintro e wc ⟨rfl, rfl⟩
                    go_wp2
                    go_roundg (nt - (i + 1))
                    case rel => exact ⟨i + 1, Rb, by have := HR9.out.1; have := HR9.out.2.1; omega, rfl, hJn⟩
                    case measure => have := HR9.out.1; have := HR9.out.2.1; omega
                  | false =>
                    rw [hcn, if_neg (by decide)] at hmon hb hg2
                    rw [hcn] at hHs
                    have HHs := Lib.hid hHs
                    have HM2 := Lib.hid (And.intro hmon (And.intro hb (And.intro hg2 hAb)))
                    clear hmon hb hg2 hAb hHs xb fb hADe hAD hcn
                    go_wp2_with fail
                    refine HHs.out.mono ?_
                    rintro e wc ⟨rfl, rfl⟩
                    go_wp2_with (first
                      | (at_builtin; refine append_n _ rfl (.tmp 137) (.tmp 139) txG rfl w.heap.size (.slice p9 Lq.length c9) (Lq.map bt) rfl (HAb.out.2.1.alloc _) ⟨wc.heap.size, 0, none⟩ [AD] 1 1 rfl rfl (cells_new wc [.string AD] _) (by have := HR9.out.2.2.2.2.2.1; have := HR9.out.2.1; have := HX.out.2.2.1; rw [List.length_map]; omega) (by have := HR9.out.2.2.2.2.2.1; have := HR9.out.2.1; have := HX.out.2.2.1; rw [List.length_map]; omega) (by have := HAb.out.1.2.size; simp; omega) ?_; intro mv3 w3 hown3 hg3 hn3; have hAp := HM2.out.2.1.app HM2.out.2.2.2 ((Below.refl _ _).alloc (Nat.le_refl _) _) (HAD.out ▸ hown3) hg3 hn3; have HAp := Lib.hid hAp; clear hAp hown3 hg3 hn3)
                      | fail)
                    have hJn : Hid (HdI w sb most (sent false (adrs ns (i + 1))) Rb w3 ∧ AllAt w3 w.heap.size Rb mv3 (adrs ns (i + 1)) ∧ Gd most ⟨sent false (adrs ns (i + 1)), [], []⟩) := by rw [HM2.out.1]; exact ⟨HAp.out.1, HAp.out.2, HM2.out.2.2.1⟩
                    go_roundg (nt - (i + 1))
                    case rel => exact ⟨i + 1, Rb, by have := HR9.out.1; have := HR9.out.2.1; omega, rfl, hJn⟩
                    case measure => have := HR9.out.1; have := HR9.out.2.1; omega
              · have v1 : decide ((i : Int) < (nt : Int)) = false := decide_eq_false (by omega)
                have v2 : decide (i < nt) = false := decide_eq_false hl
                have hin : i = ns.length := by rw [← HNt.out]; omega
                obtain ⟨Lq, hLq⟩ : ∃ Lq, Lq = adrs ns i := ⟨_, rfl⟩
                have hne : Lq ≠ [] := by rw [hLq, hin]; exact adrs_ne ns (by have := HX.out.2.1; have := HNt.out; omega)
                have hal : Lq.length ≤ 16 := by rw [hLq]; exact Nat.le_trans (adrs_len ns i (by omega)) (by have := HX.out.2.2.1; have := HNt.out; omega)
                rw [← hLq] at hJ hc9 hr9 ⊢
                have hF : Calls Tryz.prog 14 #[.pointer (some ⟨sb, 0, none⟩), .string ⟨#[68, 65, 84, 65, 13, 10]⟩] wr fun e V' => e = .returned (.tuple #[.string ⟨#[51, 53, 52, 32, 83, 116, 97, 114, 116, 32, 109, 97, 105, 108, 32, 105, 110, 112, 117, 116, 13, 10]⟩, .bool false]) ∧ ∃ R', HdI w sb most { sent false Lq with body := some [] } R' V' ∧ Ext wr R R' ∧ Fr (In R) wr V' := hJ.out.1.fed HM.out.1 hJ.out.2.2 (by rw [wt_ses _ rfl rfl]; decide) _ (dataX ++ [10]) rfl (by decide) (talk_data most false Lq hne) (by rw [rep354]; rfl) rfl
                have hgd : Gd most ⟨{ sent false Lq with body := some [] }, [], []⟩ := gd_fed hJ.out.2.2 (talk_data most false Lq hne)
                have HF := Lib.hid hF
                have HD := Lib.hid (And.intro hgd (And.intro hal (And.intro hi hJ.out.2.1)))
                clear hF hgd hal hne hi hl hin hLq hr9
                go_wp2_with fail
                refine HF.out.mono ?_
                rintro e wa ⟨rfl, Ra, ha, xa, fa⟩
                have hAa := HD.out.2.2.2.step xa fa
                obtain ⟨q2, hq2⟩ := ha.1.ctx.max
                have hSt := stuff_any x wa (by have := HX.out.1; omega) q2 hq2
                obtain ⟨Sx, hSx⟩ : ∃ Sx, Sx = bt (mapW stf x.data.toList) := ⟨_, rfl⟩
                have hSd : Sx.data.toList = (Lx.linN x.data.toList).flatMap stf := by rw [hSx, bt_data]; rfl
                have hSs : Sx.size ≤ 8000 := by
                  have h1 := Lx.flat_le stf stf_le (Lx.linN x.data.toList)
                  rw [Lx.linN_join] at h1
                  have h2 := Lx.linN_len x.data.toList
                  have h3 : x.data.toList.length = x.size := rfl
                  have h4 : Sx.data.toList.length = Sx.size := rfl
                  have h5 := HX.out.1
                  rw [← h4, hSd]; omega
                rw [← hSx] at hSt
                have v5 : ¬ 9223372036854775807 < Sx.size + 3 := by omega
                have HSt := Lib.hid hSt
                have HA1 := Lib.hid (And.intro ha (And.intro hAa (And.intro hSd hSs)))
                clear ha xa fa hAa hq2 hSt hSx hSd hSs
                go_wp2_with fail
                refine HSt.out.mono ?_
                rintro e wb ⟨rfl, hbb⟩
                have HB1 := Lib.hid (And.intro (HA1.out.1.below hbb) (HA1.out.2.1.below hbb))
                clear hbb
                have hfl : (Lx.linN x.data.toList).flatten.length = x.size := by rw [Lx.linN_join]; rfl
                have hmm := Hmm.out
                have hx4 := HX.out.1
                have hgo : ∀ (st' : Ses) (o : List UInt8) (O : ByteArray) (b : Bool), feedW most ⟨{ sent false Lq with body := some [] }, [], []⟩ ((Lx.linN x.data.toList).flatMap stf ++ ([46, 13] ++ [10])) = (⟨st', [], []⟩, o) → bt o = O → st'.waits = b → ∀ X : ByteArray, X.data.toList = (Lx.linN x.data.toList).flatMap stf ++ ([46, 13] ++ [10]) → Calls Tryz.prog 14 #[.pointer (some ⟨sb, 0, none⟩), .string X] wb fun e V' => e = .returned (.tuple #[.string O, .bool b]) ∧ ∃ R', HdI w sb most st' R' V' ∧ Ext wb Ra R' ∧ Fr (In Ra) wb V' := fun st' o O b he ho hb X hX => HB1.out.1.fed HM.out.1 HD.out.1 (by show Sm.wt ⟨{ sent false Lq with body := some [] }, [], []⟩ ≤ _; exact (show (0 : Nat) ≤ 1000000 by decide)) X _ hX (by
                    have h4 : X.data.toList.length = X.size := rfl
                    have h5 : Sx.data.toList.length = Sx.size := rfl
                    have h6 := HA1.out.2.2.2
                    rw [← h4, hX, ← HA1.out.2.2.1]
                    simp only [List.length_append, List.length_cons, List.length_nil]
                    omega) he ho hb
                by_cases hbig : most < x.size
                · have v6 : decide ((most : Int) < (x.size : Int)) = true := decide_eq_true (by omega)
                  have v7 : decide (most < x.size) = true := decide_eq_true hbig
                  have HGo := Lib.hid (hgo (rdy false) (repW 552) ⟨#[53, 53, 50, 32, 77, 101, 115, 115, 97, 103, 101, 32, 115, 105, 122, 101, 32, 101, 120, 99, 101, 101, 100, 115, 32, 108, 105, 109, 105, 116, 13, 10]⟩ false ((talk_body most Lq _ HT.out).trans (if_pos (by rw [hfl]; exact hbig))) (by rw [rep552]; rfl) rfl)
                  clear hgo hbig hfl hx4
                  go_wp2_with fail
                  refine (HGo.out _ ?_).mono ?_
                  · rw [ByteArray.data_append, Array.toList_append, HA1.out.2.2.1]
                    rfl
                  rintro e wc ⟨rfl, Rc, hc, -, -⟩
                  have HIc : Hid (∃ R, HdI w sb most (rdy false) R wc) := ⟨Rc, hc⟩
                  clear hc
                  go_wp2
                  go_roundg (many.toNat - (n + 1))
                  case rel => exact ⟨n + 1, by have := Hn.out; omega, rfl, HIc⟩
                  case measure => have := Hn.out; omega
                · have v6 : decide ((most : Int) < (x.size : Int)) = false := decide_eq_false (by omega)
                  have v7 : decide (most < x.size) = false := decide_eq_false hbig
                  have hbd := talk_body most Lq _ HT.out
                  rw [if_neg (by rw [hfl]; exact hbig)] at hbd
                  have hgb := gd_fed HD.out.1 hbd
                  have HGo := Lib.hid (hgo _ _ ⟨#[]⟩ true hbd rfl rfl)
                  have HGb := Lib.hid (And.intro hgb (And.intro hfl hx4))
                  clear hgo hbig hfl hx4 hbd hgb
                  go_wp2_with fail
                  refine (HGo.out _ ?_).mono ?_
                  · rw [ByteArray.data_append, Array.toList_append, HA1.out.2.2.1]
                    rfl
                  rintro e wc ⟨rfl, Rc, hc, xc, fc⟩
                  have hAc := HB1.out.2.step xc fc
                  have hMl := mldAgg (a := ⟨⟨_, [], []⟩, [], []⟩) hc.1 HGb.out.1.inv (by show (Lx.linN x.data.toList).flatten.length ≤ _; rw [HGb.out.2.1]; have := HGb.out.2.2; omega)
                  have HMl := Lib.hid hMl
                  have HCc := Lib.hid (And.intro hc hAc)
                  clear hc xc fc hAc hMl
                  go_wp2_with fail
                  refine HMl.out.mono ?_
                  rintro e wd ⟨rf, rp, rn, rc, rb, rfl, ⟨hE1, hE2, hE3⟩, hs9, f9⟩
                  replace hE1 : rf = ⟨#[97, 64, 98]⟩ := hE1
                  replace hE2 : rb = x := by
                    have h9 : rb = bt (Lx.linN x.data.toList).flatten := hE2
                    rw [h9, Lx.linN_join, bt_back]
                  subst hE1
                  subst hE2
                  replace hE3 : ReadsR txL wd (fun g => Rc g = 0 ∧ wc.heap.size ≤ g) (.slice rp rn rc) (Lq.map bt) := hE3
                  have hAd := HCc.out.2.step (Ext.refl _ _) f9
                  have hd : HdI w sb most _ Rc wd := ⟨hs9, Fr.below HCc.out.1.2 HCc.out.1.2.size (fun k e => (HCc.out.1.1.bnd k e).1) f9⟩
                  have hba : Below wd.heap.size wd (wd.alloc (.cells #[.string ⟨#[97, 64, 98]⟩, .slice rp rn rc, .string rb] 35)) := (Below.refl _ _).alloc (Nat.le_refl _) _
                  have hR1 := hE3.keeps (Y := fun _ => True) (fun g _ hg => hba.block g hg) hba.size (fun _ _ => trivial)
                  have hR2 := (hAd.below hba).1.reads (X := fun _ => True) (fun _ _ => trivial)
                  have hSm : Calls Tryz.prog 18 #[.agg #[.string ⟨#[97, 64, 98]⟩, .slice rp rn rc, .string rb], .agg #[.string ⟨#[97, 64, 98]⟩, .slice p9 Lq.length c9, .string rb]] (wd.alloc (.cells #[.string ⟨#[97, 64, 98]⟩, .slice rp rn rc, .string rb] 35)) fun e w' => e = .returned (.bool true) ∧ Below (wd.alloc (.cells #[.string ⟨#[97, 64, 98]⟩, .slice rp rn rc, .string rb] 35)).heap.size (wd.alloc (.cells #[.string ⟨#[97, 64, 98]⟩, .slice rp rn rc, .string rb] 35)) w' := same_any ⟨_, rp, rn, rc, rb⟩ ⟨_, p9, Lq.length, c9, rb⟩ ⟨abA, Lq, rb.data.toList⟩ ⟨rfl, (bt_back rb).symm, hR1⟩ ⟨rfl, (bt_back rb).symm, hR2⟩ (by have := HD.out.2.1; show Lq.length ≤ _; omega)
                  have HSm := Lib.hid hSm
                  have HDd := Lib.hid (hd.below hba)
                  clear hE3 hAd hd hba hR1 hR2 hSm hs9 f9
                  go_wp2_with fail
                  refine HSm.out.mono ?_
                  rintro e we ⟨rfl, hbe⟩
                  have hAn := ses_answer (HDd.out.below hbe).1 0
                  rw [talk_answer] at hAn
                  have HAn := Lib.hid hAn
                  have HDe := Lib.hid (HDd.out.below hbe)
                  clear hbe hAn
                  go_wp2_with fail
                  refine HAn.out.mono ?_
                  rintro e wf ⟨rfl, hst⟩
                  obtain ⟨Rf, hf, -, -⟩ := HDe.out.step hst
                  have HIf : Hid (∃ R, HdI w sb most (rdy false) R wf) := ⟨Rf, hf⟩
                  have hok2 : bt (repW 250) = ⟨#[50, 53, 48, 32, 79, 75, 13, 10]⟩ := by rw [rep250]; rfl
                  rw [hok2]
                  clear hst hf hok2
                  go_wp2
                  go_roundg (many.toNat - (n + 1))
                  case rel => exact ⟨n + 1, by have := Hn.out; omega, rfl, HIf⟩
                  case measure => have := Hn.out; omega
          · have u8 : decide ((n : Int) < many) = false := decide_eq_false hnl
            have HB := Lib.hid hI.out.choose_spec.2
            clear hn hnl hman
            go_wp2
            go_ret
            exact ⟨rfl, HB.out⟩
  · by_cases c1 : 4000 < x.size
    · have u1 : decide (4000 < (x.size : Int)) = true := decide_eq_true (by omega)
      clear hx c1
      go_wp2
      go_ret
      exact ⟨rfl, HB1.out⟩
    · have u1 : decide (4000 < (x.size : Int)) = false := decide_eq_false (by omega)
      by_cases c2 : nt < 1
      · have u2 : decide ((nt : Int) < 1) = true := decide_eq_true (by omega)
        clear hx c1 c2
        go_wp2
        go_ret
        exact ⟨rfl, HB1.out⟩
      · have u2 : decide ((nt : Int) < 1) = false := decide_eq_false (by omega)
        by_cases c3 : 16 < nt
        · have u3 : decide (16 < (nt : Int)) = true := decide_eq_true (by omega)
          clear hx c1 c2 c3
          go_wp2
          go_ret
          exact ⟨rfl, HB1.out⟩
        · have u3 : decide (16 < (nt : Int)) = false := decide_eq_false (by omega)
          by_cases c4 : many < 1
          · have u4 : decide (many < 1) = true := decide_eq_true c4
            clear hx c1 c2 c3 c4
            go_wp2
            go_ret
            exact ⟨rfl, HB1.out⟩
          · have u4 : decide (many < 1) = false := decide_eq_false c4
            have u5 : decide (4 < many) = true := decide_eq_true (by omega)
            clear hx c1 c2 c3 c4
            go_wp2
            go_ret
            exact ⟨rfl, HB1.out⟩
end
end Go.Proofs.YtjoipgekmnnlpaaGreatDoor
