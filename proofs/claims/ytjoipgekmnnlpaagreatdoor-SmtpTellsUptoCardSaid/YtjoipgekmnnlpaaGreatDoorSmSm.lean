/- Walks: chapter 22's law functions: the fixed examples. -/
import Derived.Test.YtjoipgekmnnlpaaGreatDoorSmLs
import Derived.Test.YtjoipgekmnnlpaaGreatDoorSmPz
namespace Go.Proofs.YtjoipgekmnnlpaaGreatDoor
open Go.RowKit Go.Shelf Go.Lib Pk Sm

section
variable {G : Nat} {w w' : World} {sb most : Nat} {s : Whl} {R R' : Roles}
/-- a message in a box, with its one recipient -/
def BxA (R : Roles) (b g o n c : Nat) (F B x : ByteArray) (V : World) : Prop :=
  V.heap[b]? = some (.cells #[.string F, .slice (some ⟨g, o, none⟩) n c, .string B] 35 (0, 0)) ∧ R b = 0 ∧ V.cell? ⟨g, o, none⟩ = some (.string x) ∧ R g = 0 ∧ g < V.heap.size
theorem BxA.step {b g o n c : Nat} {F B x : ByteArray} (h : BxA R b g o n c F B x w) (hE : Ext w R R') (f : Fr (In R) w w') : BxA R' b g o n c F B x w' := by
  obtain ⟨h1, h2, h3, h4, h5⟩ := h
  have hb := lt_of_block h1
  exact ⟨(f.block b hb (fun e => e h2)).trans h1, (hE b hb).trans h2, (World.cell?_of_block (f.block g h5 (fun e => e h4))).trans h3, (hE g h5).trans h4, Nat.lt_of_lt_of_le h5 f.size⟩
theorem BxA.below {b g o n c : Nat} {F B x : ByteArray} (h : BxA R b g o n c F B x w) (hb : Below w.heap.size w w') : BxA R b g o n c F B x w' := h.step (Ext.refl _ _) (Fr.of_below hb)
theorem fedE (h : SesAt G w sb most s R) (hm : most ≤ 65536) (hg : Gd most s) (chunk : ByteArray) (hs : chunk.size ≤ 1000000) (hw : Sm.wt s + 2000 * chunk.size ≤ 100000000) {p : Whl × List UInt8} (hp : feedW most s chunk.data.toList = p) {o : ByteArray} (ho : bt p.2 = o) {b : Bool} (hb : p.1.st.waits = b) :
    Calls Tryz.prog 14 #[.pointer (some ⟨sb, 0, none⟩), .string chunk] w fun e w' => e = .returned (.tuple #[.string o, .bool b]) ∧ Stp G w sb most R w' p.1 := by
  have := feed_any h hm hg chunk hs hw
  rw [hp] at this
  subst ho; subst hb
  exact this
def SmC1 (w : World) (sb : Nat) (R : Roles) (s : Whl) (wr : World) : Prop := SesAt w.heap.size wr sb 100 s R ∧ Below w.heap.size w wr
theorem SmC1.step (h : SmC1 w sb R s w') {V : World} {s' : Whl} (hs : Stp w.heap.size w' sb 100 R V s') : ∃ R', SmC1 w sb R' s' V ∧ Ext w' R R' ∧ Fr (In R) w' V := by
  obtain ⟨R', s1, s2, s3⟩ := hs
  exact ⟨R', ⟨s1, Fr.below h.2 h.2.size (fun k e => (h.1.bnd k e).1) s3⟩, s2, s3⟩
theorem SmC1.below (h : SmC1 w sb R s w') {V : World} (hb : Below w'.heap.size w' V) : SmC1 w sb R s V := ⟨h.1.below hb, h.2.trans (hb.mono h.2.size)⟩
theorem gq1 : Gd 100 q1.1 := (gd0 100).feed _
theorem gq2 : Gd 100 q2.1 := gq1.feed _
theorem gq3 : Gd 100 q3 := gq2.answer 0
theorem gq4 : Gd 100 q4.1 := gq3.feed _
theorem gq5 : Gd 100 q5.1 := gq4.feed _
theorem gu1 : Gd 100 u1.1 := (gd0 100).feed _
theorem wq1 : Sm.wt q1.1 ≤ 1000000 := by
  have h := feed_wt (most := 100) (by decide) (gd0 100) smX1
  have e0 : Sm.wt begin0 = 0 := rfl
  have e1 : smX1.length = 66 := rfl
  change q1.2.length + Sm.wt q1.1 ≤ _ at h
  omega
theorem wq2 : Sm.wt q2.1 ≤ 2000000 := by
  have h := feed_wt (most := 100) (by decide) gq1 smX2
  have e0 := wq1
  have e1 : smX2.length = 20 := rfl
  change q2.2.length + Sm.wt q2.1 ≤ _ at h
  omega
theorem wq3 : Sm.wt q3 ≤ 2000000 := by
  have h := answer_wt' (s := q2.1) 0
  have e0 := wq2
  change _ + Sm.wt q3 ≤ _ at h
  omega
theorem wq4 : Sm.wt q4.1 ≤ 2000000 := by
  have h := feed_wt (most := 100) (by decide) gq3 []
  have e0 := wq3
  change q4.2.length + Sm.wt q4.1 ≤ _ + 2000 * 0 at h
  omega
def SmM (w : World) (sb : Nat) (R : Roles) (s : Whl) (e : Ending) (V : World) : Prop := ∃ g o c, e = .returned (.agg #[.string ⟨#[97, 64, 98]⟩, .slice (some ⟨g, o, none⟩) 1 c, .string ⟨#[97, 13, 10, 46, 13, 10]⟩]) ∧ SmC1 w sb R s V ∧ V.cell? ⟨g, o, none⟩ = some (.string ⟨#[99, 64, 100]⟩) ∧ R g = 0 ∧ g < V.heap.size
theorem mail1 (h : SmC1 w sb R q2.1 w') : Calls Tryz.prog 19 #[.pointer (some ⟨sb, 0, none⟩)] w' (SmM w sb R q2.1) := by
  refine (mailA_any h.1 gq2.inv (by rw [q2_l]; decide)).mono ?_
  rintro e w4 ⟨⟨rf, rp, rn, rc, rb⟩, rfl, ⟨hf, hb, p, c, he, h1, h2⟩, h4, f4⟩
  replace hf : rf = bt (envOf q2.1.st).frm := hf
  replace hb : rb = bt (envOf q2.1.st).byt := hb
  have hrl : ((envOf q2.1.st).rcp.map bt).length = 1 := by rw [q2_r]; rfl
  have he : Value.slice rp rn rc = .slice p ((envOf q2.1.st).rcp.map bt).length c := he
  injection he with e1 e2 e3
  subst e1; subst e2; subst e3
  rw [q2_f] at hf
  rw [q2_b] at hb
  rcases h2 with h2 | ⟨g, o, rfl, ⟨hg, -⟩, hgl, hcl⟩
  · rw [h2] at hrl; cases hrl
  · refine ⟨g, o, rc, ?_, ⟨h4, Fr.below h.2 h.2.size (fun k e => (h.1.bnd k e).1) f4⟩, ?_, hg, hgl⟩
    · subst hf; subst hb
      rw [hrl]
      rfl
    · have h9 := hcl 0 (by rw [hrl]; decide) 0 (.string ⟨#[99, 64, 100]⟩) (by simp only [q2_r]; rfl)
      exact h9
theorem SmC1.alloc (h : SmC1 w sb R s w') (c : Array Value) (t : TypeId) : SmC1 w sb R s (w'.alloc (.cells c t)) := h.below ((Below.refl _ _).alloc (Nat.le_refl _) _)
theorem ans1 (h : SmC1 w sb R q2.1 w') : Calls Tryz.prog 21 #[.pointer (some ⟨sb, 0, none⟩), .int .i64 0] w' fun e V => e = .returned (.string ⟨#[50, 53, 48, 32, 79, 75, 13, 10]⟩) ∧ Stp w.heap.size w' sb 100 R V q3 := by
  refine (ses_answer h.1 0).mono ?_
  rintro e V ⟨rfl, hs⟩
  rw [q3_o]
  exact ⟨rfl, hs⟩
theorem rep220 : repW 220 = [50, 50, 48, 32, 112, 111, 117, 99, 104, 32, 114, 101, 97, 100, 121, 13, 10] := by decide +kernel
theorem grt1 (h : SmC1 w sb R s w') : Calls Tryz.prog 12 #[.pointer (some ⟨sb, 0, none⟩)] w' fun e V => e = .returned (.string ⟨#[50, 50, 48, 32, 112, 111, 117, 99, 104, 32, 114, 101, 97, 100, 121, 13, 10]⟩) ∧ Below w'.heap.size w' V := by
  refine (greet_any _ h.1.ctx).mono ?_
  rintro e V ⟨rfl, hb⟩
  rw [rep220]
  exact ⟨rfl, hb⟩
theorem answer_same (st : Ses) (h : st.waits = false) (e : Int) : answerW st e = (st, []) := by unfold answerW; rw [if_pos h]
theorem ans2 (h : SmC1 w sb R s w') (hq : s.st.waits = false) : Calls Tryz.prog 21 #[.pointer (some ⟨sb, 0, none⟩), .int .i64 0] w' fun e V => e = .returned (.string ⟨#[]⟩) ∧ ∃ R', SmC1 w sb R' s V := by
  refine (ses_answer h.1 0).mono ?_
  rintro e V ⟨rfl, hs⟩
  rw [answer_same _ hq] at hs
  obtain ⟨R', h1, -, -⟩ := h.step hs
  rw [answer_same _ hq]
  exact ⟨rfl, R', h1⟩
theorem mail2 (h : SmC1 w sb R u1.1 w') : Calls Tryz.prog 19 #[.pointer (some ⟨sb, 0, none⟩)] w' fun e V => (∃ F p n c, e = .returned (.agg #[.string F, .slice p n c, .string ⟨#[]⟩])) ∧ Below w.heap.size w V := by
  refine (mailA_no h.1 u1_w).mono ?_
  rintro e V ⟨⟨rf, rp, rn, rc, rb⟩, rfl, ⟨hf, hb, hrd⟩, h4, f4⟩
  replace hb : rb = bt (envOf u1.1.st).byt := hb
  rw [u1_b] at hb
  subst hb
  exact ⟨⟨rf, rp, rn, rc, rfl⟩, Fr.below h.2 h.2.size (fun k e => (h.1.bnd k e).1) f4⟩
theorem fld2 (F : ByteArray) (p : Option Addr) (n c : Nat) (B : ByteArray) (w : World) : (Instr.field 35 (.agg #[.string F, .slice p n c, .string B]) 2).run Tryz.prog w = .ok (.string B) w := by kernel_rfl
set_option maxHeartbeats 4000000 in
set_option maxRecDepth 100000 in
theorem small_any (w : World) (hC : Ctx G w) : Calls Tryz.prog 8 #[] w fun e w' => e = .returned (.bool true) ∧ Below w.heap.size w w' := by
  have HC := Lib.hid (Ctx.self hC)
  clear hC
  have HN := Lib.hid (ses_new 100 HC.out)
  go_enter Tryz.func8, Tryz.ntmps8
  go_wp2_with fail
  refine HN.out.mono ?_
  rintro e w1 ⟨sb, R1, rfl, hs1, hR1, hb1⟩
  have H1 := Lib.hid (show SmC1 w sb R1 begin0 w1 from ⟨hs1, hb1⟩)
  have HF1 := Lib.hid (fedE (chunk := ⟨smX1.toArray⟩) H1.out.1 (by decide) (gd0 100) (by decide) (by decide) (p := q1) rfl (o := ⟨#[50, 53, 48, 32, 79, 75, 13, 10, 50, 53, 48, 32, 79, 75, 13, 10, 50, 53, 48, 32, 79, 75, 13, 10, 50, 53, 48, 32, 79, 75, 13, 10]⟩) (by rw [q1_o]; rfl) q1_w)
  clear hs1 hR1 hb1
  go_wp2_with fail
  refine HF1.out.mono ?_
  rintro e w2 ⟨rfl, hst⟩
  obtain ⟨R2, h2, -, -⟩ := H1.out.step hst
  have H2 := Lib.hid h2
  have HF2 := Lib.hid (fedE (chunk := ⟨smX2.toArray⟩) h2.1 (by decide) gq1 (by decide) (by have := wq1; have e1 : (ByteArray.mk smX2.toArray).size = 20 := rfl; omega) (p := q2) rfl (o := ⟨#[51, 53, 52, 32, 83, 116, 97, 114, 116, 32, 109, 97, 105, 108, 32, 105, 110, 112, 117, 116, 13, 10]⟩) (by rw [q2_o]; rfl) q2_w)
  clear hst h2
  go_wp2_with fail
  refine HF2.out.mono ?_
  rintro e w3 ⟨rfl, hst⟩
  obtain ⟨R3, h3, -, -⟩ := H2.out.step hst
  have HM := Lib.hid (mail1 h3)
  clear hst h3
  go_wp2_with fail
  refine HM.out.mono ?_
  rintro e w4 ⟨g, o, rc, rfl, h4, hx, hg, hgl⟩
  have hbx : BxA R3 w4.heap.size g o 1 rc ⟨#[97, 64, 98]⟩ ⟨#[97, 13, 10, 46, 13, 10]⟩ ⟨#[99, 64, 100]⟩ (w4.alloc (.cells #[.string ⟨#[97, 64, 98]⟩, .slice (some ⟨g, o, none⟩) 1 rc, .string ⟨#[97, 13, 10, 46, 13, 10]⟩] 35)) := ⟨heap_alloc_new w4 _, (by by_cases hz : R3 w4.heap.size = 0; exact hz; have := (h4.1.bnd _ hz).2; omega), cell_later ((Below.refl _ _).alloc (Nat.le_refl _) _) hx, hg, by simp; omega⟩
  have hA := ans1 (h4.alloc #[.string ⟨#[97, 64, 98]⟩, .slice (some ⟨g, o, none⟩) 1 rc, .string ⟨#[97, 13, 10, 46, 13, 10]⟩] 35)
  have HX := Lib.hid (And.intro (h4.alloc #[.string ⟨#[97, 64, 98]⟩, .slice (some ⟨g, o, none⟩) 1 rc, .string ⟨#[97, 13, 10, 46, 13, 10]⟩] 35) (And.intro hbx hA))
  clear h4 hx hg hgl hbx hA
  go_wp2_with fail
  refine HX.out.2.2.mono ?_
  rintro e w6 ⟨rfl, hst⟩
  obtain ⟨R6, h6, x6, f6⟩ := HX.out.1.step hst
  have hbx := HX.out.2.1.step x6 f6
  have HF := Lib.hid (fedE (chunk := ⟨#[]⟩) h6.1 (by decide) gq3 (by decide) (by have := wq3; have e1 : (ByteArray.mk #[]).size = 0 := rfl; omega) (p := q4) rfl (o := ⟨#[50, 50, 49, 32, 66, 121, 101, 13, 10]⟩) (by rw [q4_o]; rfl) q4_w)
  have HX6 := Lib.hid (And.intro h6 hbx)
  clear hst h6 x6 f6 hbx
  go_wp2_with fail
  refine HF.out.mono ?_
  rintro e w7 ⟨rfl, hst⟩
  obtain ⟨R7, h6, x6, f6⟩ := HX6.out.1.step hst
  have hbx := HX6.out.2.step x6 f6
  have HF7 := Lib.hid (fedE (chunk := ⟨smX3.toArray⟩) h6.1 (by decide) gq4 (by decide) (by have := wq4; have e1 : (ByteArray.mk smX3.toArray).size = 6 := rfl; omega) (p := q5) rfl (o := ⟨#[]⟩) (by rw [q5_o]; rfl) q5_w)
  have HX7 := Lib.hid (And.intro h6 hbx)
  clear hst h6 x6 f6 hbx
  go_wp2_with fail
  refine HF7.out.mono ?_
  rintro e w8 ⟨rfl, hst⟩
  obtain ⟨R8, h6, x6, f6⟩ := HX7.out.1.step hst
  have hbx := HX7.out.2.step x6 f6
  have HN8 := Lib.hid (ses_new 100 (Ctx.self h6.1.ctx))
  have HX8 := Lib.hid (And.intro h6 hbx)
  clear hst h6 x6 f6 hbx
  go_wp2_with fail
  refine HN8.out.mono ?_
  rintro e w9 ⟨tb, T9, rfl, hs9, hR9, hb9⟩
  have H9 := Lib.hid (show SmC1 w8 tb T9 begin0 w9 from ⟨hs9, hb9⟩)
  obtain ⟨O9, hO9⟩ : ∃ O9, bt u1.2 = O9 := ⟨_, rfl⟩
  have HF9 := Lib.hid (fedE (chunk := ⟨smY.toArray⟩) H9.out.1 (by decide) (gd0 100) (by decide) (by decide) (p := u1) rfl (o := O9) hO9 u1_w)
  clear hs9 hR9 hb9
  go_wp2_with fail
  refine HF9.out.mono ?_
  rintro e w10 ⟨rfl, hst⟩
  obtain ⟨T10, h10, -, -⟩ := H9.out.step hst
  have hbx := HX8.out.2.below h10.2
  have k0 : w10.cell? ⟨w4.heap.size, 0, none⟩ = some (.string ⟨#[97, 64, 98]⟩) := (Lib.cell_of_heap hbx.1 _).trans rfl
  have k1 : w10.cell? ⟨w4.heap.size, 1, none⟩ = some (.slice (some ⟨g, o, none⟩) 1 rc) := (Lib.cell_of_heap hbx.1 _).trans rfl
  have k2 : w10.cell? ⟨w4.heap.size, 2, none⟩ = some (.string ⟨#[97, 13, 10, 46, 13, 10]⟩) := (Lib.cell_of_heap hbx.1 _).trans rfl
  have k3 : w10.cell? ⟨g, o, none⟩ = some (.string ⟨#[99, 64, 100]⟩) := hbx.2.2.1
  have H10 := Lib.hid (And.intro h10 (HX8.out.1.below h10.2))
  have HO := Lib.hid (ses_over H10.out.2.1)
  rw [q5_e] at HO
  have hw : O9.toList = [50, 53, 48, 45, 112, 111, 117, 99, 104, 13, 10, 50, 53, 48, 45, 80, 73, 80, 69, 76, 73, 78, 73, 78, 71, 13, 10, 50, 53, 48, 45, 83, 73, 90, 69, 32, 49, 48, 48, 13, 10, 50, 53, 48, 32, 79, 75, 13, 10, 53, 53, 50, 32, 77, 101, 115, 115, 97, 103, 101, 32, 115, 105, 122, 101, 32, 101, 120, 99, 101, 101, 100, 115, 32, 108, 105, 109, 105, 116, 13, 10, 53, 48, 49, 32, 83, 121, 110, 116, 97, 120, 32, 101, 114, 114, 111, 114, 32, 105, 110, 32, 112, 97, 114, 97, 109, 101, 116, 101, 114, 115, 13, 10, 53, 48, 51, 32, 66, 97, 100, 32, 115, 101, 113, 117, 101, 110, 99, 101, 32, 111, 102, 32, 99, 111, 109, 109, 97, 110, 100, 115, 13, 10, 50, 53, 48, 32, 79, 75, 13, 10, 53, 48, 49, 32, 83, 121, 110, 116, 97, 120, 32, 101, 114, 114, 111, 114, 32, 105, 110, 32, 112, 97, 114, 97, 109, 101, 116, 101, 114, 115, 13, 10, 53, 48, 51, 32, 66, 97, 100, 32, 115, 101, 113, 117, 101, 110, 99, 101, 32, 111, 102, 32, 99, 111, 109, 109, 97, 110, 100, 115, 13, 10, 50, 53, 50, 32, 67, 97, 110, 110, 111, 116, 32, 118, 101, 114, 105, 102, 121, 32, 117, 115, 101, 114, 13, 10, 53, 48, 48, 32, 83, 121, 110, 116, 97, 120, 32, 101, 114, 114, 111, 114, 13, 10, 53, 48, 49, 32, 83, 121, 110, 116, 97, 120, 32, 101, 114, 114, 111, 114, 32, 105, 110, 32, 112, 97, 114, 97, 109, 101, 116, 101, 114, 115, 13, 10] := by rw [← hO9, u1_o]; decide +kernel
  have HO2 := Lib.hid (ses_over h10.1)
  rw [u1_e] at HO2
  have HG := Lib.hid (grt1 H10.out.2)
  clear hst h10 hbx hO9
  go_wp2_with fail
  refine HO.out.mono ?_
  rintro e wz ⟨rfl, rfl⟩
  go_wp2_with fail
  refine HO2.out.mono ?_
  rintro e wy ⟨rfl, rfl⟩
  go_wp2_with fail
  refine HG.out.mono ?_
  rintro e w11 ⟨rfl, hb11⟩
  have HA2 := Lib.hid (ans2 (H10.out.1.below hb11) u1_w)
  clear hb11 k0 k1 k2 k3
  go_wp2_with fail
  refine HA2.out.mono ?_
  rintro e w12 ⟨rfl, T12, h12⟩
  have HM2 := Lib.hid (mail2 h12)
  clear h12
  go_wp2_with fail
  refine HM2.out.mono ?_
  rintro e w13 ⟨⟨F, p, n, c, rfl⟩, hb13⟩
  have hfl := fld2 F p n c ⟨#[]⟩ w13
  have HB := Lib.hid (HX8.out.1.2.trans (hb13.mono HX8.out.1.2.size))
  clear hb13
  go_wp2
  go_ret
  exact ⟨rfl, HB.out⟩
end
end Go.Proofs.YtjoipgekmnnlpaaGreatDoor
