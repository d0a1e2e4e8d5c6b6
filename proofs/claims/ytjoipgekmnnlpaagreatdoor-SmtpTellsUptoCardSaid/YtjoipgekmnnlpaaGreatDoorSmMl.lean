/- Walks: a mail session as a whole: Mail; an envelope; the reference's Same. -/
import Derived.Test.YtjoipgekmnnlpaaGreatDoorSmZ
namespace Go.Proofs.YtjoipgekmnnlpaaGreatDoor
open Go.RowKit Go.Shelf Go.Lib Pk Sm

/-- an envelope as it lies: its texts, and where the recipients lie -/
structure RE where
  f : ByteArray
  p : Option Addr
  n : Nat
  c : Nat
  b : ByteArray
def RE.val (r : RE) : Value := .agg #[.string r.f, .slice r.p r.n r.c, .string r.b]
/-- an envelope, its recipients within blocks of a set -/
def EnvAt (w : World) (Y : Nat → Prop) (r : RE) (m : Env) : Prop := r.f = bt m.frm ∧ r.b = bt m.byt ∧ ReadsR txL w Y (.slice r.p r.n r.c) (m.rcp.map bt)
theorem EnvAt.keeps {w w' : World} {Y Z : Nat → Prop} {r : RE} {m : Env} (h : EnvAt w Y r m) (hk : ∀ g, Y g → g < w.heap.size → w'.heap[g]? = w.heap[g]?) (hs : w.heap.size ≤ w'.heap.size) (hY : ∀ g, Y g → Z g) : EnvAt w' Z r m := ⟨h.1, h.2.1, h.2.2.keeps hk hs hY⟩
section
variable {G : Nat} {w w' : World} {sb most : Nat} {fp kv sp tv bp : Value} {s : Whl} {R : Roles}
/-- slices.Clone -/
theorem cloneQ {L : List ByteArray} {z : Prop} (hq : Qs txL z w 9 tv L) (hl : L.length ≤ 1000) : Calls Tryz.prog 43 #[tv] w fun e w' => ∃ p c, e = .returned (.slice p L.length c) ∧ ReadsR txL w' (fun g => w.heap.size ≤ g) (.slice p L.length c) L ∧ Below w.heap.size w w' := by
  rcases hq with ⟨rfl, rfl⟩ | ⟨g, o, cap, cur, fz, rfl, h1, h2, h3, h4, h5, h6, h7⟩
  · refine (Tryz.slices_Clone_string_nil 0 0 w).mono ?_
    rintro e w' ⟨rfl, rfl⟩
    exact ⟨none, 0, rfl, ReadsR.nil _ _ _, Below.refl _ _⟩
  · refine (Tryz.slices_Clone_string g o L.length cap L w (Nat.le_refl _) (by omega) (fun j hj => ?_)).mono ?_
    · rw [cell_cur h3]
      refine h7 j _ ?_
      rw [txL_enc, List.getElem?_map, List.getD_eq_getElem?_getD, List.getElem?_eq_getElem hj]
      rfl
    · rintro e w' ⟨v', rfl, ho, -, hb⟩
      rw [List.take_length] at ho
      have ho : ownsG txL w' w.heap.size 9 v' L := by
        unfold ownsG
        rw [txL_enc]; exact ho
      have hr := ho.reads (X := fun g => w.heap.size ≤ g) (fun g hg => (World.ownsRow.lt ho g hg).1)
      obtain ⟨p, c, rfl, h8, h9⟩ := hr
      exact ⟨p, c, rfl, ⟨p, c, rfl, h8, h9⟩, hb⟩
/-- what Mail leaves -/
def MldIs (G : Nat) (w : World) (sb most : Nat) (s : Whl) (R : Roles) (e : Ending) (w' : World) : Prop := ∃ r : RE, e = .returned r.val ∧ EnvAt w' (fun g => R g = 0 ∧ w.heap.size ≤ g) r (envOf s.st) ∧ SesAt G w' sb most s R ∧ Fr (In R) w w'
set_option maxHeartbeats 4000000 in
set_option maxRecDepth 100000 in
theorem mailA_no (h : SesAt G w sb most s R) (hw : s.st.waits = false) : Calls Tryz.prog 19 #[.pointer (some ⟨sb, 0, none⟩)] w (MldIs G w sb most s R) := by
  obtain ⟨fp, kv, sp, tv, bp, h⟩ := h
  have x8 := h.raw.cells.1.2.2.2.2.2.2.2.2.1
  rw [hw] at x8
  have hb : ∀ O, Below w.heap.size w (w.alloc O) := fun O => (Below.refl _ _).alloc (Nat.le_refl _) _
  have x8' := fun O => cell_later (hb O) x8
  have HS := Lib.hid (show SesAt G w sb most s R from ⟨fp, kv, sp, tv, bp, h⟩)
  have HW := Lib.hid (And.intro hw (Nat.zero_le 0))
  clear h hw hb
  go_enter Tryz.func19, Tryz.ntmps19
  go_wp2_with fail
  (try simp only [Exit.inBlock, Exit.then])
  refine bodyPost_ret (v := (.agg #[.string ⟨#[]⟩, .slice none 0 0, .string ⟨#[]⟩])) (by simp [results, Tryz.results19, go_sem, *]) rfl ?_
  have hbO : Below w.heap.size w (w.alloc (.cells #[.string ⟨#[]⟩, .slice none 0 0, .string ⟨#[]⟩] 35)) := (Below.refl _ _).alloc (Nat.le_refl _) _
  refine ⟨⟨⟨#[]⟩, none, 0, 0, ⟨#[]⟩⟩, rfl, ?_, HS.out.below hbO, Fr.of_below hbO⟩
  have e0 : envOf s.st = env0 := by unfold envOf; rw [if_neg (by rw [HW.out.1]; decide)]
  rw [e0]
  exact ⟨rfl, rfl, ReadsR.nil _ _ _⟩
theorem run_storeO {P : Program} {o : Oper} {a : Act} {x y : Operand} {ty t : TypeId} {g : Nat} {old cells : Array Value} (ho : o.op = .store ty x y) (hx : a.eval x = .pointer (some ⟨g, 0, none⟩)) (hy : a.eval y = .agg cells) (hg : w.heap[g]? = some (.cells old t (0, 0))) (hi : (P.info? ty).map (·.size) = some cells.size)
    (hold : old.size = cells.size) (h1 : cells.all (·.oneCell') = true) : (execOp a.eval o).run P w = .ok .skip (w.setRow g cells) := by
  unfold execOp
  simp only [ho, hx, hy, Instr.storeAt, Instr.sureAddr, Sem.run_bind, Sem.run_pure, Result.andThen_ok, run_storeVar_row w g t ty old cells hg hi hold h1]
/-- the cells that Mail reads -/
def MlS (sb xb bb : Nat) (a : ByteArray) (tv : Value) (V : World) : Prop := V.cell? ⟨sb, 4, none⟩ = some (.pointer (some ⟨xb, 0, none⟩)) ∧ V.cell? ⟨xb, 0, none⟩ = some (.string a) ∧ V.cell? ⟨sb, 5, none⟩ = some tv ∧ V.cell? ⟨sb, 6, none⟩ = some (.pointer (some ⟨bb, 0, none⟩))
theorem ml_cells {xb bb : Nat} {a : List UInt8} (h : SesR G w sb most fp kv (.pointer (some ⟨xb, 0, none⟩)) tv (.pointer (some ⟨bb, 0, none⟩)) s R) (hx : w.heap[xb]? = some (.cells #[.string (bt a)] 9 (0, 0))) : MlS sb xb bb (bt a) tv w :=
  ⟨h.raw.cells.1.2.2.2.2.1, (Lib.cell_of_heap hx _).trans rfl, h.raw.cells.1.2.2.2.2.2.1, h.raw.cells.1.2.2.2.2.2.2.1⟩
theorem ml_str {xb bb : Nat} {a : List UInt8} {bv : Value} {w1 w2 : World} (h : SesR G w sb most fp kv (.pointer (some ⟨xb, 0, none⟩)) tv (.pointer (some ⟨bb, 0, none⟩)) s R) (hv : ∀ k, bv.ownBlock = some k → R k = 8) (hx6 : R xb = 6) (hB : Below w.heap.size w w1) (hx : w.heap[xb]? = some (.cells #[.string (bt a)] 9 (0, 0)))
    (f : Fr (fun k => bv.ownBlock = some k) w1 w2) (hs : MlS sb xb bb (bt a) tv w1) : MlS sb xb bb (bt a) tv w2 := by
  have k1 : w2.heap[sb]? = w1.heap[sb]? := f.block sb (Nat.lt_of_lt_of_le h.sb_lt hB.size) fun e => by have := hv sb e; have := h.me; omega
  have k2 : w2.heap[xb]? = w1.heap[xb]? := f.block xb (Nat.lt_of_lt_of_le (lt_of_block hx) hB.size) fun e => by have := hv xb e; omega
  exact ⟨(World.cell?_of_block k1).trans hs.1, (World.cell?_of_block k2).trans hs.2.1, (World.cell?_of_block k1).trans hs.2.2.1, (World.cell?_of_block k1).trans hs.2.2.2⟩
theorem ml_row {xb bb : Nat} {a : List UInt8} {w2 : World} {cells : Array Value} (h : SesR G w sb most fp kv (.pointer (some ⟨xb, 0, none⟩)) tv (.pointer (some ⟨bb, 0, none⟩)) s R) (hx : w.heap[xb]? = some (.cells #[.string (bt a)] 9 (0, 0))) (hs : MlS sb xb bb (bt a) tv w2) : MlS sb xb bb (bt a) tv (w2.setRow w.heap.size cells) := by
  have hsb := h.sb_lt
  have hxl := lt_of_block hx
  have k1 : (w2.setRow w.heap.size cells).heap[sb]? = w2.heap[sb]? := setRow_other w2 w.heap.size sb cells (by omega)
  have k2 : (w2.setRow w.heap.size cells).heap[xb]? = w2.heap[xb]? := setRow_other w2 w.heap.size xb cells (by omega)
  exact ⟨(World.cell?_of_block k1).trans hs.1, (World.cell?_of_block k2).trans hs.2.1, (World.cell?_of_block k1).trans hs.2.2.1, (World.cell?_of_block k1).trans hs.2.2.2⟩
theorem ml_ses {bb : Nat} {bv : Value} {b : List UInt8} {w3 : World} (h : SesR G w sb most fp kv sp tv (.pointer (some ⟨bb, 0, none⟩)) s R) (hq : BQ w bb bv b) (hv : ∀ k, bv.ownBlock = some k → R k = 8) (hb : s.st.body = some b) (hc : Ctx G w3) (hk : ∀ k, k < w.heap.size → bv.ownBlock ≠ some k → w3.heap[k]? = w.heap[k]?) (hq3 : BQ w3 bb bv b) (hz : w.heap.size ≤ w3.heap.size) : SesAt G w3 sb most s R := by
  have hk8 : ∀ k, k < w.heap.size → R k ≠ 8 → w3.heap[k]? = w.heap[k]? := fun k hl hR => hk k hl fun e => hR (hv k e)
  refine ⟨fp, kv, sp, tv, _, hc, fun k e => by have := h.bnd k e; exact ⟨this.1, by omega⟩, h.me, (hk8 sb h.sb_lt (by rw [h.me]; decide)).trans h.raw, ?_, ?_, ?_, ?_, ?_⟩
  · exact h.feed.kept (fun k hl e => hk8 k hl (by omega)) (Ext.refl _ _)
  · exact h.kept.kept (fun k hl e => hk8 k hl (by omega)) (Ext.refl _ _)
  · exact h.rcp.kept (fun k hl e => hk8 k hl (by omega)) (Ext.refl _ _)
  · exact h.snd.kept (fun k hl e => hk8 k hl (by omega)) (Ext.refl _ _)
  · have hbd := h.body
    rw [hb] at hbd ⊢
    obtain ⟨bb', bv', e1, h7, h8, h9⟩ := hbd
    injection e1 with e1
    injection e1 with e1
    injection e1 with e1
    subst e1
    have e2 : bv' = bv := by
      obtain ⟨⟨p, hp, x1⟩, -⟩ := h8
      obtain ⟨⟨p', hp', x2⟩, -⟩ := hq
      rw [x1] at x2
      injection x2 with x2
      injection x2 with x2
      have x3 := congrArg (fun c : Array Value => c[1]?) x2
      simpa using x3
    subst e2
    exact ⟨bb, bv', rfl, h7, hq3, h9⟩
set_option maxHeartbeats 4000000 in
set_option maxRecDepth 100000 in
theorem mailA_yes (h : SesAt G w sb most s R) (hi : Inv most s.st) (hw : s.st.waits = true) (hbl : (s.st.body.getD []).length ≤ 100000000) : Calls Tryz.prog 19 #[.pointer (some ⟨sb, 0, none⟩)] w (MldIs G w sb most s R) := by
  have h0 := h
  obtain ⟨fp, kv, sp, tv, bp, h⟩ := h
  have hb1 := hi.bod hw
  have hs1 := hi.snd (hi.rcp hb1)
  obtain ⟨b, hb⟩ := Option.isSome_iff_exists.1 hb1
  obtain ⟨a, ha⟩ := Option.isSome_iff_exists.1 hs1
  have hbd := h.body
  rw [hb] at hbd
  obtain ⟨bb, bv, rfl, hbb7, hbq, hbv8⟩ := hbd
  have hsn := h.snd
  rw [ha] at hsn
  obtain ⟨xb, rfl, hxb6, hxb⟩ := hsn
  obtain ⟨W0, hW0⟩ : ∃ W0, W0 = (w.alloc (.cells #[.string ⟨#[]⟩, .slice none 0 0, .string ⟨#[]⟩] 35)).drew := ⟨_, rfl⟩
  have hB0 : Below w.heap.size w W0 := by rw [hW0]; exact ((Below.refl _ _).alloc (Nat.le_refl _) _).drew
  have hrb : W0.heap[w.heap.size]? = some (.cells #[.string ⟨#[]⟩, .slice none 0 0, .string ⟨#[]⟩] 35 (0, 0)) := by rw [hW0]; exact heap_alloc_new w _
  have x8 := h.raw.cells.1.2.2.2.2.2.2.2.2.1
  rw [hw] at x8
  have x8' : ∀ O, (w.alloc O).cell? ⟨sb, 8, none⟩ = some (.bool true) := fun O => cell_later ((Below.refl _ _).alloc (Nat.le_refl _) O) x8
  obtain ⟨d0, d1, d2, d3⟩ := ml_cells h hxb
  have hS0 : MlS sb xb bb (bt a) tv W0 := ⟨cell_later hB0 d0, cell_later hB0 d1, cell_later hB0 d2, cell_later hB0 d3⟩
  have hq0 : Qs txL True W0 9 tv (s.st.to.map bt) := h.rcp.1.kept fun g e => hB0.block g (h.rcp.1.lt e)
  have hcl := cloneQ hq0 (by rw [List.length_map]; have := hi.few; omega)
  have HCl := Lib.hid hcl
  have HS := Lib.hid h0
  have HB := Lib.hid (And.intro hB0 (And.intro hrb (And.intro hbq (And.intro hbv8 (And.intro hbb7 (And.intro hxb hxb6))))))
  have HI := Lib.hid (And.intro hi (And.intro hw (And.intro ha (And.intro hb hbl))))
  have HR := Lib.hid h
  have HWx := Lib.hid hW0
  clear h h0 hi hw hbl hb1 hs1 ha hb hbq hbv8 hbb7 hxb hxb6 hB0 hrb x8 d0 d1 d2 d3 hq0 hcl hW0
  go_enter Tryz.func19, Tryz.ntmps19
  go_wp2_with fail
  refine wp_region_heldO (MlS sb xb bb (bt a) tv) 18 (by kernel_rfl) rfl (by rw [← HWx.out]; exact hS0) (fun hHeld => ?_)
  rw [← HWx.out] at hHeld ⊢
  refine takeO (v := ?_) 0 rfl (by kernel_rfl) (by kernel_rfl) (by kernel_rfl) (by rfl) ?_ hHeld ?_
  rotate_left
  · intro w hSw
    obtain ⟨hSw0, hSw1, hSw2, hSw3⟩ := hSw
    go_simp
    first | done | with_reducible rfl
  simp only [Act.put, List.setIfInBounds_toArray, List.set_cons_zero, List.set_cons_succ]
  refine takeO (v := ?_) 1 rfl (by kernel_rfl) (by kernel_rfl) (by kernel_rfl) (by rfl) ?_ hHeld ?_
  rotate_left
  · intro w hSw
    obtain ⟨hSw0, hSw1, hSw2, hSw3⟩ := hSw
    go_simp
    first | done | with_reducible rfl
  simp only [Act.put, List.setIfInBounds_toArray, List.set_cons_zero, List.set_cons_succ]
  refine takeO (v := ?_) 2 rfl (by kernel_rfl) (by kernel_rfl) (by kernel_rfl) (by rfl) ?_ hHeld ?_
  rotate_left
  · intro w hSw
    obtain ⟨hSw0, hSw1, hSw2, hSw3⟩ := hSw
    go_simp
    first | done | with_reducible rfl
  simp only [Act.put, List.setIfInBounds_toArray, List.set_cons_zero, List.set_cons_succ]
  refine takeO (v := ?_) 3 rfl (by kernel_rfl) (by kernel_rfl) (by kernel_rfl) (by rfl) ?_ hHeld ?_
  rotate_left
  · intro w hSw
    obtain ⟨hSw0, hSw1, hSw2, hSw3⟩ := hSw
    go_simp
    first | done | with_reducible rfl
  simp only [Act.put, List.setIfInBounds_toArray, List.set_cons_zero, List.set_cons_succ]
  refine takeO (v := ?_) 4 rfl (by kernel_rfl) (by kernel_rfl) (by kernel_rfl) (by rfl) ?_ hHeld ?_
  rotate_left
  · intro w hSw
    obtain ⟨hSw0, hSw1, hSw2, hSw3⟩ := hSw
    go_simp
    first | done | with_reducible rfl
  simp only [Act.put, List.setIfInBounds_toArray, List.set_cons_zero, List.set_cons_succ]
  refine takeO (v := ?_) 5 rfl (by kernel_rfl) (by kernel_rfl) (by kernel_rfl) (by rfl) ?_ hHeld ?_
  rotate_left
  · intro w hSw
    obtain ⟨hSw0, hSw1, hSw2, hSw3⟩ := hSw
    go_simp
    first | done | with_reducible rfl
  simp only [Act.put, List.setIfInBounds_toArray, List.set_cons_zero, List.set_cons_succ]
  refine takeO (v := ?_) 6 rfl (by kernel_rfl) (by kernel_rfl) (by kernel_rfl) (by rfl) ?_ hHeld ?_
  rotate_left
  · intro w hSw
    obtain ⟨hSw0, hSw1, hSw2, hSw3⟩ := hSw
    go_simp
    first | done | with_reducible rfl
  simp only [Act.put, List.setIfInBounds_toArray, List.set_cons_zero, List.set_cons_succ]
  refine takeO (v := ?_) 7 rfl (by kernel_rfl) (by kernel_rfl) (by kernel_rfl) (by rfl) ?_ hHeld ?_
  rotate_left
  · intro w hSw
    obtain ⟨hSw0, hSw1, hSw2, hSw3⟩ := hSw
    go_simp
    first | done | with_reducible rfl
  simp only [Act.put, List.setIfInBounds_toArray, List.set_cons_zero, List.set_cons_succ]
  refine takeO (v := ?_) 8 rfl (by kernel_rfl) (by kernel_rfl) (by kernel_rfl) (by rfl) ?_ hHeld ?_
  rotate_left
  · intro w hSw
    obtain ⟨hSw0, hSw1, hSw2, hSw3⟩ := hSw
    go_simp
    first | done | with_reducible rfl
  simp only [Act.put, List.setIfInBounds_toArray, List.set_cons_zero, List.set_cons_succ]
  refine takeO (v := ?_) 9 rfl (by kernel_rfl) (by kernel_rfl) (by kernel_rfl) (by rfl) ?_ hHeld ?_
  rotate_left
  · intro w hSw
    obtain ⟨hSw0, hSw1, hSw2, hSw3⟩ := hSw
    go_simp
    first | done | with_reducible rfl
  simp only [Act.put, List.setIfInBounds_toArray, List.set_cons_zero, List.set_cons_succ]
  refine takeO (v := ?_) 11 rfl (by kernel_rfl) (by kernel_rfl) (by kernel_rfl) (by rfl) ?_ hHeld ?_
  rotate_left
  · intro w hSw
    obtain ⟨hSw0, hSw1, hSw2, hSw3⟩ := hSw
    go_simp
    first | done | with_reducible rfl
  simp only [Act.put, List.setIfInBounds_toArray, List.set_cons_zero, List.set_cons_succ]
  refine takeO (v := ?_) 12 rfl (by kernel_rfl) (by kernel_rfl) (by kernel_rfl) (by rfl) ?_ hHeld ?_
  rotate_left
  · intro w hSw
    obtain ⟨hSw0, hSw1, hSw2, hSw3⟩ := hSw
    go_simp
    first | done | with_reducible rfl
  simp only [Act.put, List.setIfInBounds_toArray, List.set_cons_zero, List.set_cons_succ]
  refine takeO (v := ?_) 13 rfl (by kernel_rfl) (by kernel_rfl) (by kernel_rfl) (by rfl) ?_ hHeld ?_
  rotate_left
  · intro w hSw
    obtain ⟨hSw0, hSw1, hSw2, hSw3⟩ := hSw
    go_simp
    first | done | with_reducible rfl
  simp only [Act.put, List.setIfInBounds_toArray, List.set_cons_zero, List.set_cons_succ]
  refine takeO (v := ?_) 14 rfl (by kernel_rfl) (by kernel_rfl) (by kernel_rfl) (by rfl) ?_ hHeld ?_
  rotate_left
  · intro w hSw
    obtain ⟨hSw0, hSw1, hSw2, hSw3⟩ := hSw
    go_simp
    first | done | with_reducible rfl
  simp only [Act.put, List.setIfInBounds_toArray, List.set_cons_zero, List.set_cons_succ]
  refine callO (f := 43) (args := #[tv]) 10 rfl (by kernel_rfl) (by rfl) (by go_simp) (HCl.out.mono ?_)
  rintro e w1 ⟨p1, c1, rfl, hr1, hb1⟩
  obtain ⟨N, hN⟩ : ∃ N, N = (s.st.to.map bt).length := ⟨_, rfl⟩
  rw [← hN] at hr1 ⊢
  have HN := Lib.hid hN
  clear hN
  have hS1 : MlS sb xb bb (bt a) tv w1 := ⟨cell_later hb1 hS0.1, cell_later hb1 hS0.2.1, cell_later hb1 hS0.2.2.1, cell_later hb1 hS0.2.2.2⟩
  have hB1 : Below w.heap.size w w1 := HB.out.1.trans (hb1.mono HB.out.1.size)
  have hq1 : BQ w1 bb bv b := HB.out.2.2.1.kept (hB1.block bb HB.out.2.2.1.lt) fun g e => hB1.block g (HB.out.2.2.1.2.2.1.lt e)
  have hrb1 : w1.heap[w.heap.size]? = some (.cells #[.string ⟨#[]⟩, .slice none 0 0, .string ⟨#[]⟩] 35 (0, 0)) := (hb1.block _ (lt_of_block HB.out.2.1)).trans HB.out.2.1
  have HR1 := Lib.hid (And.intro hr1 (And.intro hb1 (And.intro hB1 hrb1)))
  have hSt := stQ bb bv b w1 hq1 (by have h1 := HI.out.2.2.2.2; rw [HI.out.2.2.2.1] at h1; have h1 : b.length ≤ 100000000 := h1; omega)
  have HSt := Lib.hid hSt
  clear hHeld hr1 hb1 hB1 hq1 hrb1 hSt
  refine ⟨_, rfl, hS1, ?_⟩
  simp only [Act.put, List.setIfInBounds_toArray, List.set_cons_zero, List.set_cons_succ]
  have hHeld := hS1
  refine callO (f := 39) (args := #[.pointer (some ⟨bb, 0, none⟩)]) 15 rfl (by kernel_rfl) (by rfl) (by go_simp) (HSt.out.mono ?_)
  rintro e w2 ⟨rfl, hq2, f2⟩
  have hS2 := ml_str HR.out HB.out.2.2.2.1 HB.out.2.2.2.2.2.2 HR1.out.2.2.1 HB.out.2.2.2.2.2.1 f2 hS1
  have hrb2 : w2.heap[w.heap.size]? = some (.cells #[.string ⟨#[]⟩, .slice none 0 0, .string ⟨#[]⟩] 35 (0, 0)) := (f2.block _ (lt_of_block HR1.out.2.2.2) (fun e => by have := HB.out.2.2.1.2.2.1.lt e; omega)).trans HR1.out.2.2.2
  have hS3 := ml_row HR.out HB.out.2.2.2.2.2.1 hS2 (cells := #[.string (bt a), .slice p1 N c1, .string (bt b)])
  have hw3 := setRow_heap w2 w.heap.size _ #[.string (bt a), .slice p1 N c1, .string (bt b)] _ _ hrb2
  have r0 : (w2.setRow w.heap.size #[.string (bt a), .slice p1 N c1, .string (bt b)]).cell? ⟨w.heap.size, 0, none⟩ = some (.string (bt a)) := (Lib.cell_of_heap hw3 _).trans rfl
  have r1 : (w2.setRow w.heap.size #[.string (bt a), .slice p1 N c1, .string (bt b)]).cell? ⟨w.heap.size, 1, none⟩ = some (.slice p1 N c1) := (Lib.cell_of_heap hw3 _).trans rfl
  have r2 : (w2.setRow w.heap.size #[.string (bt a), .slice p1 N c1, .string (bt b)]).cell? ⟨w.heap.size, 2, none⟩ = some (.string (bt b)) := (Lib.cell_of_heap hw3 _).trans rfl
  have HF := Lib.hid f2
  have HQ := Lib.hid hq2
  have HS3 := Lib.hid hS3
  have HRB := Lib.hid hrb2
  clear hq2 f2 hS3 hw3 hrb2
  refine ⟨_, rfl, hS2, ?_⟩
  simp only [Act.put, List.setIfInBounds_toArray, List.set_cons_zero, List.set_cons_succ]
  have hHeld := hS2
  refine takeO (v := ?_) 16 rfl (by kernel_rfl) (by kernel_rfl) (by kernel_rfl) (by rfl) ?_ hHeld ?_
  rotate_left
  · intro w hSw
    obtain ⟨hSw0, hSw1, hSw2, hSw3⟩ := hSw
    go_simp
    first | done | with_reducible rfl
  simp only [Act.put, List.setIfInBounds_toArray, List.set_cons_zero, List.set_cons_succ]
  refine skipO 17 rfl (by kernel_rfl) (by rfl) (run_storeO (g := w.heap.size) (cells := #[.string (bt a), .slice p1 N c1, .string (bt b)]) rfl rfl rfl HRB.out (by kernel_rfl) rfl (by simp [Value.oneCell'])) HS3.out ?_
  simp only [Act.put, List.setIfInBounds_toArray, List.set_cons_zero, List.set_cons_succ]
  refine doneO (by kernel_rfl) ?_
  clear hHeld hS0 hS1 hS2
  go_wp2
  (try simp only [Exit.inBlock, Exit.then])
  refine bodyPost_ret (v := (.agg #[.string (bt a), .slice p1 N c1, .string (bt b)])) (by simp [results, Tryz.results19, go_sem, *]) rfl ?_
  have hsz1 := HR1.out.2.2.1.size
  have hl8 : ∀ k, bv.ownBlock = some k → k < w.heap.size := fun k e => HB.out.2.2.1.2.2.1.lt e
  obtain ⟨hr1, hb1, hB1, hrb1⟩ := HR1.out
  have hzb := lt_of_block hrb1
  have hz2 := HF.out.size
  obtain ⟨hi, hw, ha, hb, -⟩ := HI.out
  have e0 : envOf s.st = ⟨a, s.st.to, b⟩ := by unfold envOf; rw [if_pos hw, ha, hb]; rfl
  have hz3 : (w2.setRow w.heap.size #[.string (bt a), .slice p1 N c1, .string (bt b)]).heap.size = w2.heap.size := by unfold World.setRow; simp
  have hf3 : Fr (In R) w (w2.setRow w.heap.size #[.string (bt a), .slice p1 N c1, .string (bt b)]) := by
    have g1 : Fr (In R) w w2 := (Fr.of_below hB1).trans HF.out (fun g hg => .inl (by unfold In; rw [HB.out.2.2.2.1 g hg]; decide))
    exact ⟨g1.os, g1.tape, g1.output, by rw [hz3]; exact g1.size, fun k hk hx => (setRow_other w2 w.heap.size k _ (by omega)).trans (g1.block k hk hx)⟩
  refine ⟨⟨bt a, p1, N, c1, bt b⟩, rfl, ?_, ?_, hf3⟩
  · rw [e0]
    refine ⟨rfl, rfl, ?_⟩
    have hW0 := hb1.size
    have hrb0 := lt_of_block HB.out.2.1
    refine hr1.keeps (fun g hg hgl => (setRow_other w2 w.heap.size g _ (by omega)).trans (HF.out.block g hgl fun e => by have := hl8 g e; omega)) (by rw [hz3]; omega) (fun g hg => ⟨?_, by omega⟩)
    by_cases hx : R g = 0
    · exact hx
    · have := (HR.out.bnd g hx).2; omega
  · refine ml_ses HR.out HB.out.2.2.1 HB.out.2.2.2.1 hb (HR.out.ctx' (fun k e => e) hf3) (fun k hk hne => (setRow_other w2 w.heap.size k _ (by omega)).trans ((HF.out.block k (by omega) hne).trans (hB1.block k hk))) ?_ hf3.size
    exact HQ.out.kept (setRow_other w2 w.heap.size bb _ (by have := HB.out.2.2.1.lt; omega)) fun g e => setRow_other w2 w.heap.size g _ (by have := hl8 g e; omega)
end
end Go.Proofs.YtjoipgekmnnlpaaGreatDoor
