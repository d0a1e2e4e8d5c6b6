/- Walks: the reference of layer 22: Mail. Walks: chapter 22's law functions: SmtpTells. -/
import Derived.Test.YtjoipgekmnnlpaaGreatDoorTlF
import Derived.Test.YtjoipgekmnnlpaaGreatDoorSmLs
import Derived.Test.YtjoipgekmnnlpaaGreatDoorSmSm
namespace Go.Proofs.YtjoipgekmnnlpaaGreatDoor
open Go.RowKit Go.Shelf Go.Lib Pk Hx C1 Sm

section
variable {Z : Nat → Prop} {w w' : World} {rb most fb N : Nat} {kv tv : Value} {B L : ByteArray} {s : Whl}
/-- what the reference's Mail leaves -/
def MldR (Z : Nat → Prop) (w : World) (rb most N : Nat) (s : Whl) (e : Ending) (w' : World) : Prop := ∃ r : RE, e = .returned r.val ∧ EnvAt w' (fun g => w.heap.size ≤ g) r (envOf s.st) ∧ RefAt Z w' rb most N s ∧ Below w.heap.size w w'
theorem Qs.readsR {α : Type} {K : Lay α} {z : Prop} {w : World} {e : TypeId} {v : Value} {l : List α} (h : Qs K z w e v l) {X : Nat → Prop} (hX : ∀ k, v.ownBlock = some k → X k) : ReadsR K w X v l := by
  rcases h with ⟨rfl, rfl⟩ | ⟨g, o, cap, cur, fz, rfl, h1, h2, h3, h4, h5, h6, h7⟩
  · exact ReadsR.nil _ _ _
  · refine ⟨_, _, rfl, h1, .inr ⟨g, o, rfl, hX g rfl, lt_of_block h3, fun j hj i u hu => ?_⟩⟩
    have hi := (List.getElem?_eq_some_iff.1 hu).1
    rw [K.hk] at hi
    have key : ∀ (l : List α) (j : Nat) (hj : j < l.length), (K.enc l[j])[i]? = some u → (l.flatMap K.enc)[j * K.k + i]? = some u := by
      intro l
      induction l with
      | nil => intro j hj; cases hj
      | cons a t ih =>
        intro j hj hu
        rw [List.flatMap_cons]
        cases j with
        | zero =>
          rw [Nat.zero_mul, Nat.zero_add, List.getElem?_append_left (by rw [K.hk]; exact hi)]
          exact hu
        | succ j =>
          rw [List.getElem?_append_right (by rw [K.hk, Nat.succ_mul]; omega), K.hk, show (j + 1) * K.k + i - K.k = j * K.k + i by rw [Nat.succ_mul]; omega]
          exact ih j (by simpa using hj) hu
    have := h7 (j * K.k + i) u (key l j hj hu)
    rw [cell_cur h3, Nat.add_assoc]
    exact this
set_option maxHeartbeats 4000000 in
set_option maxRecDepth 100000 in
theorem refMailA_no (h : RefAt Z w rb most N s) (hw : s.st.waits = false) : Calls Tryz.prog 20 #[.pointer (some ⟨rb, 0, none⟩)] w (MldR Z w rb most N s) := by
  have h0 := h
  obtain ⟨fb, kv, tv, B, L, h, hN⟩ := h
  have x8 := h.raw.cells.c10
  rw [hw] at x8
  have hb : ∀ O, Below w.heap.size w (w.alloc O) := fun O => (Below.refl _ _).alloc (Nat.le_refl _) _
  have x8' := fun O => cell_later (hb O) x8
  have HS := Lib.hid h0
  have HW := Lib.hid (And.intro hw (Nat.zero_le 0))
  clear h h0 hw hb hN
  go_enter Tryz.func20, Tryz.ntmps20
  go_wp2_with fail
  (try simp only [Exit.inBlock, Exit.then])
  refine bodyPost_ret (v := (.agg #[.string ⟨#[]⟩, .slice none 0 0, .string ⟨#[]⟩])) (by simp [results, Tryz.results20, go_sem, *]) rfl ?_
  have hbO : Below w.heap.size w (w.alloc (.cells #[.string ⟨#[]⟩, .slice none 0 0, .string ⟨#[]⟩] 35)) := (Below.refl _ _).alloc (Nat.le_refl _) _
  refine ⟨⟨⟨#[]⟩, none, 0, 0, ⟨#[]⟩⟩, rfl, ?_, HS.out.below hbO, hbO⟩
  have e0 : envOf s.st = env0 := by unfold envOf; rw [if_neg (by rw [HW.out.1]; decide)]
  rw [e0]
  exact ⟨rfl, rfl, ReadsR.nil _ _ _⟩
/-- the cells that Mail reads -/
def MlR (rb : Nat) (fr : ByteArray) (tv : Value) (B : ByteArray) (V : World) : Prop := V.cell? ⟨rb, 5, none⟩ = some (.string fr) ∧ V.cell? ⟨rb, 6, none⟩ = some tv ∧ V.cell? ⟨rb, 9, none⟩ = some (.string B)
set_option maxHeartbeats 4000000 in
set_option maxRecDepth 100000 in
theorem refMailA_yes (h : RefAt Z w rb most N s) (hi : Inv most s.st) (hw : s.st.waits = true) : Calls Tryz.prog 20 #[.pointer (some ⟨rb, 0, none⟩)] w (MldR Z w rb most N s) := by
  have h0 := h
  obtain ⟨fb, kv, tv, B, L, h, hN⟩ := h
  obtain ⟨b, hb⟩ := Option.isSome_iff_exists.1 (hi.bod hw)
  have hB := h.bod b hb
  obtain ⟨fr, hfr⟩ : ∃ fr, fr = bt (s.st.sender.getD []) := ⟨_, rfl⟩
  have hraw := h.raw
  rw [← hfr] at hraw
  have x8 := hraw.cells.c10
  rw [hw] at x8
  have x8' : ∀ O, (w.alloc O).cell? ⟨rb, 10, none⟩ = some (.bool true) := fun O => cell_later ((Below.refl _ _).alloc (Nat.le_refl _) O) x8
  obtain ⟨W0, hW0⟩ : ∃ W0, W0 = (w.alloc (.cells #[.string ⟨#[]⟩, .slice none 0 0, .string ⟨#[]⟩] 35)).drew := ⟨_, rfl⟩
  have hB0 : Below w.heap.size w W0 := by rw [hW0]; exact ((Below.refl _ _).alloc (Nat.le_refl _) _).drew
  have hrb : W0.heap[w.heap.size]? = some (.cells #[.string ⟨#[]⟩, .slice none 0 0, .string ⟨#[]⟩] 35 (0, 0)) := by rw [hW0]; exact heap_alloc_new w _
  have hS0 : MlR rb fr tv B W0 := ⟨cell_later hB0 hraw.cells.c5, cell_later hB0 hraw.cells.c6, cell_later hB0 hraw.cells.c9⟩
  have hq0 : Qs txL True W0 9 tv (s.st.to.map bt) := h.rcp.kept fun g e => hB0.block g (h.rcp.lt e)
  obtain ⟨v1, w2, hap, hq2, hb2, ho2⟩ := copy_list hq0 (by rw [List.length_map]; have := hi.few; omega) 22
  have hbA : Below W0.heap.size W0 (W0.alloc (.cells #[] 9)) := (Below.refl _ _).alloc (Nat.le_refl _) _
  have hSA : MlR rb fr tv B (W0.alloc (.cells #[] 9)) := ⟨cell_later hbA hS0.1, cell_later hbA hS0.2.1, cell_later hbA hS0.2.2⟩
  have hS2 : MlR rb fr tv B w2 := ⟨cell_later hb2 hS0.1, cell_later hb2 hS0.2.1, cell_later hb2 hS0.2.2⟩
  have hrb2 : w2.heap[w.heap.size]? = some (.cells #[.string ⟨#[]⟩, .slice none 0 0, .string ⟨#[]⟩] 35 (0, 0)) := (hb2.block _ (lt_of_block hrb)).trans hrb
  obtain ⟨p1, c1, hv1, -⟩ := hq2.form
  obtain ⟨n1, hn1⟩ : ∃ n1, n1 = (s.st.to.map bt).length := ⟨_, rfl⟩
  rw [← hn1] at hv1
  clear hn1
  subst hv1
  have hrl := hraw.lt
  have hne : rb ≠ w.heap.size := by omega
  have hS3 : MlR rb fr tv B (w2.setRow w.heap.size #[.string fr, .slice p1 n1 c1, .string B]) := by
    have k1 : (w2.setRow w.heap.size #[.string fr, .slice p1 n1 c1, .string B]).heap[rb]? = w2.heap[rb]? := setRow_other w2 w.heap.size rb _ hne
    exact ⟨(World.cell?_of_block k1).trans hS2.1, (World.cell?_of_block k1).trans hS2.2.1, (World.cell?_of_block k1).trans hS2.2.2⟩
  have hw3 := setRow_heap w2 w.heap.size _ #[.string fr, .slice p1 n1 c1, .string B] _ _ hrb2
  have r0 : (w2.setRow w.heap.size #[.string fr, .slice p1 n1 c1, .string B]).cell? ⟨w.heap.size, 0, none⟩ = some (.string fr) := (Lib.cell_of_heap hw3 _).trans rfl
  have r1 : (w2.setRow w.heap.size #[.string fr, .slice p1 n1 c1, .string B]).cell? ⟨w.heap.size, 1, none⟩ = some (.slice p1 n1 c1) := (Lib.cell_of_heap hw3 _).trans rfl
  have r2 : (w2.setRow w.heap.size #[.string fr, .slice p1 n1 c1, .string B]).cell? ⟨w.heap.size, 2, none⟩ = some (.string B) := (Lib.cell_of_heap hw3 _).trans rfl
  have HS := Lib.hid h0
  have HE := Lib.hid (And.intro hw (And.intro hb (And.intro hB hfr)))
  have HB := Lib.hid (And.intro hB0 (And.intro hb2 (And.intro hq2 (And.intro ho2 (And.intro hrb2 hrb)))))
  have HS3 := Lib.hid hS3
  have HWx := Lib.hid hW0
  have HRB := Lib.hid hrb2
  have hz1 : W0.heap.size = w.heap.size + 1 := by rw [hW0]; simp [World.drew]
  clear h h0 hi hw hb hB hfr hraw hN x8 hB0 hrb hq0 hq2 hb2 ho2 hbA hrb2 hrl hne hS3 hw3 hW0
  go_enter Tryz.func20, Tryz.ntmps20
  go_wp2_with fail
  refine wp_region_heldO (MlR rb fr tv B) 16 (by kernel_rfl) rfl (by rw [← HWx.out]; exact hS0) (fun hHeld => ?_)
  rw [← HWx.out] at hHeld ⊢
  refine takeO (v := ?_) 0 rfl (by kernel_rfl) (by kernel_rfl) (by kernel_rfl) (by rfl) ?_ hHeld ?_
  rotate_left
  · intro w hSw
    obtain ⟨hSw0, hSw1, hSw2⟩ := hSw
    go_simp
    first | done | with_reducible rfl
  simp only [Act.put, List.setIfInBounds_toArray, List.set_cons_zero, List.set_cons_succ]
  refine takeO (v := ?_) 1 rfl (by kernel_rfl) (by kernel_rfl) (by kernel_rfl) (by rfl) ?_ hHeld ?_
  rotate_left
  · intro w hSw
    obtain ⟨hSw0, hSw1, hSw2⟩ := hSw
    go_simp
    first | done | with_reducible rfl
  simp only [Act.put, List.setIfInBounds_toArray, List.set_cons_zero, List.set_cons_succ]
  refine takeO (v := ?_) 2 rfl (by kernel_rfl) (by kernel_rfl) (by kernel_rfl) (by rfl) ?_ hHeld ?_
  rotate_left
  · intro w hSw
    obtain ⟨hSw0, hSw1, hSw2⟩ := hSw
    go_simp
    first | done | with_reducible rfl
  simp only [Act.put, List.setIfInBounds_toArray, List.set_cons_zero, List.set_cons_succ]
  refine takeO (v := ?_) 3 rfl (by kernel_rfl) (by kernel_rfl) (by kernel_rfl) (by rfl) ?_ hHeld ?_
  rotate_left
  · intro w hSw
    obtain ⟨hSw0, hSw1, hSw2⟩ := hSw
    go_simp
    first | done | with_reducible rfl
  simp only [Act.put, List.setIfInBounds_toArray, List.set_cons_zero, List.set_cons_succ]
  refine takeO (v := ?_) 5 rfl (by kernel_rfl) (by kernel_rfl) (by kernel_rfl) (by rfl) ?_ hHeld ?_
  rotate_left
  · intro w hSw
    obtain ⟨hSw0, hSw1, hSw2⟩ := hSw
    go_simp
    first | done | with_reducible rfl
  simp only [Act.put, List.setIfInBounds_toArray, List.set_cons_zero, List.set_cons_succ]
  refine takeO (v := ?_) 6 rfl (by kernel_rfl) (by kernel_rfl) (by kernel_rfl) (by rfl) ?_ hHeld ?_
  rotate_left
  · intro w hSw
    obtain ⟨hSw0, hSw1, hSw2⟩ := hSw
    go_simp
    first | done | with_reducible rfl
  simp only [Act.put, List.setIfInBounds_toArray, List.set_cons_zero, List.set_cons_succ]
  refine takeO (v := ?_) 7 rfl (by kernel_rfl) (by kernel_rfl) (by kernel_rfl) (by rfl) ?_ hHeld ?_
  rotate_left
  · intro w hSw
    obtain ⟨hSw0, hSw1, hSw2⟩ := hSw
    go_simp
    first | done | with_reducible rfl
  simp only [Act.put, List.setIfInBounds_toArray, List.set_cons_zero, List.set_cons_succ]
  refine takeO (v := ?_) 8 rfl (by kernel_rfl) (by kernel_rfl) (by kernel_rfl) (by rfl) ?_ hHeld ?_
  rotate_left
  · intro w hSw
    obtain ⟨hSw0, hSw1, hSw2⟩ := hSw
    go_simp
    first | done | with_reducible rfl
  simp only [Act.put, List.setIfInBounds_toArray, List.set_cons_zero, List.set_cons_succ]
  refine takeO (v := ?_) 10 rfl (by kernel_rfl) (by kernel_rfl) (by kernel_rfl) (by rfl) ?_ hHeld ?_
  rotate_left
  · intro w hSw
    obtain ⟨hSw0, hSw1, hSw2⟩ := hSw
    go_simp
    first | done | with_reducible rfl
  simp only [Act.put, List.setIfInBounds_toArray, List.set_cons_zero, List.set_cons_succ]
  refine takeO (v := ?_) 11 rfl (by kernel_rfl) (by kernel_rfl) (by kernel_rfl) (by rfl) ?_ hHeld ?_
  rotate_left
  · intro w hSw
    obtain ⟨hSw0, hSw1, hSw2⟩ := hSw
    go_simp
    first | done | with_reducible rfl
  simp only [Act.put, List.setIfInBounds_toArray, List.set_cons_zero, List.set_cons_succ]
  refine takeO (v := ?_) 12 rfl (by kernel_rfl) (by kernel_rfl) (by kernel_rfl) (by rfl) ?_ hHeld ?_
  rotate_left
  · intro w hSw
    obtain ⟨hSw0, hSw1, hSw2⟩ := hSw
    go_simp
    first | done | with_reducible rfl
  simp only [Act.put, List.setIfInBounds_toArray, List.set_cons_zero, List.set_cons_succ]
  refine takeO (v := ?_) 13 rfl (by kernel_rfl) (by kernel_rfl) (by kernel_rfl) (by rfl) ?_ hHeld ?_
  rotate_left
  · intro w hSw
    obtain ⟨hSw0, hSw1, hSw2⟩ := hSw
    go_simp
    first | done | with_reducible rfl
  simp only [Act.put, List.setIfInBounds_toArray, List.set_cons_zero, List.set_cons_succ]
  refine stepO (v := .slice (some ⟨W0.heap.size, 0, none⟩) 0 0) (w' := W0.alloc (.cells #[] 9)) 4 rfl (by kernel_rfl) (by rfl) (by go_simp) hSA ?_
  simp only [Act.put, List.setIfInBounds_toArray, List.set_cons_zero, List.set_cons_succ]
  refine stepO (v := .slice p1 n1 c1) (w' := w2) 9 rfl (by kernel_rfl) (by rfl) (run_appO rfl rfl rfl hap) hS2 ?_
  simp only [Act.put, List.setIfInBounds_toArray, List.set_cons_zero, List.set_cons_succ]
  have hHeld := hS2
  refine takeO (v := ?_) 14 rfl (by kernel_rfl) (by kernel_rfl) (by kernel_rfl) (by rfl) ?_ hHeld ?_
  rotate_left
  · intro w hSw
    obtain ⟨hSw0, hSw1, hSw2⟩ := hSw
    go_simp
    first | done | with_reducible rfl
  simp only [Act.put, List.setIfInBounds_toArray, List.set_cons_zero, List.set_cons_succ]
  refine skipO 15 rfl (by kernel_rfl) (by rfl) (run_storeO (g := w.heap.size) (cells := #[.string fr, .slice p1 n1 c1, .string B]) rfl rfl rfl HRB.out (by kernel_rfl) rfl (by simp [Value.oneCell'])) HS3.out ?_
  simp only [Act.put, List.setIfInBounds_toArray, List.set_cons_zero, List.set_cons_succ]
  refine doneO (by kernel_rfl) ?_
  clear hHeld hS0 hSA hS2
  go_wp2
  (try simp only [Exit.inBlock, Exit.then])
  refine bodyPost_ret (v := (.agg #[.string fr, .slice p1 n1 c1, .string B])) (by simp [results, Tryz.results20, go_sem, *]) rfl ?_
  obtain ⟨hB0, hb2, hq2, ho2, hrb2, hrb⟩ := HB.out
  obtain ⟨hw, hb, hB, hfr⟩ := HE.out
  have hz3 : (w2.setRow w.heap.size #[.string fr, .slice p1 n1 c1, .string B]).heap.size = w2.heap.size := by unfold World.setRow; simp
  have hbw2 : Below w.heap.size w w2 := hB0.trans (hb2.mono hB0.size)
  have hbw : Below w.heap.size w (w2.setRow w.heap.size #[.string fr, .slice p1 n1 c1, .string B]) :=
    ⟨hbw2.os, hbw2.tape, hbw2.output, by rw [hz3]; exact hbw2.size, fun k hk => (setRow_other w2 w.heap.size k _ (by omega)).trans (hbw2.block k hk)⟩
  have e0 : envOf s.st = ⟨s.st.sender.getD [], s.st.to, b⟩ := by unfold envOf; rw [if_pos hw, hb]; rfl
  refine ⟨⟨fr, p1, n1, c1, B⟩, rfl, ?_, HS.out.below hbw, hbw⟩
  rw [e0]
  refine ⟨hfr, hB, ?_⟩
  have hr := Qs.readsR hq2 (X := fun k => W0.heap.size ≤ k) ho2
  exact hr.keeps (fun g hg hgl => setRow_other w2 w.heap.size g _ (by omega)) (by rw [hz3]; omega) (fun g hg => by have hg : W0.heap.size ≤ g := hg; omega)
theorem refMailA (h : RefAt Z w rb most N s) (hi : Inv most s.st) : Calls Tryz.prog 20 #[.pointer (some ⟨rb, 0, none⟩)] w (MldR Z w rb most N s) := by
  cases hw : s.st.waits with
  | false => exact refMailA_no h hw
  | true => exact refMailA_yes h hi hw
end
end Go.Proofs.YtjoipgekmnnlpaaGreatDoor
namespace Go.Proofs.YtjoipgekmnnlpaaGreatDoor
open Go.RowKit Go.Shelf Go.Lib Pk Hx C1 Sm

/-- the blocks that are none of the session's -/
def Zn (w : World) (R : Roles) (k : Nat) : Prop := w.heap.size ≤ k ∧ R k = 0
/-- the session and the reference's, apart -/
structure Par (w V : World) (sb rb most : Nat) (R : Roles) (N : Nat) (s t : Whl) : Prop where
  one : SesAt w.heap.size V sb most s R
  ref : RefAt (Zn w R) V rb most N t
  below : Below w.heap.size w V
section
variable {G : Nat} {w V V' : World} {sb rb most N N' : Nat} {s s' t t' : Whl} {R R' : Roles}
theorem Par.next (h : Par w V sb rb most R N s t) (s1 : SesAt w.heap.size V' sb most s' R') (s2 : Ext V R R') (s3 : Fr (In R) V V') : Par w V' sb rb most R' N s' t :=
  ⟨s1, (h.ref.zone (Y := Zn w R') fun k hk hz => ⟨hz.1, (s2 k hk).trans hz.2⟩).keep fun k hk hz => s3.block k hk fun e => e ((s2 k hk).symm.trans hz.2), Fr.below h.below h.below.size (fun k e => (h.one.bnd k e).1) s3⟩
theorem Par.step1 (h : Par w V sb rb most R N s t) (hs : Stp w.heap.size V sb most R V' s') : ∃ R', Par w V' sb rb most R' N s' t := by
  obtain ⟨R', s1, s2, s3⟩ := hs
  exact ⟨R', h.next s1 s2 s3⟩
theorem Par.step2 (h : Par w V sb rb most R N s t) (hr : RefAt (Zn w R) V' rb most N' t') (f : Fr (Zn w R) V V') : Par w V' sb rb most R N' s t' :=
  ⟨h.one.kept (h.one.ctx.fr (X := Zn w R) (fun k e => e.1) f) (fun k hk e => f.block k hk fun z => e z.2) f.size, hr, Fr.below h.below h.below.size (fun k e => e.1) f⟩
theorem Par.later (h : Par w V sb rb most R N s t) (hb : Below V.heap.size V V') : Par w V' sb rb most R N s t := ⟨h.one.below hb, h.ref.below hb, h.below.trans (hb.mono h.below.size)⟩
theorem Par.up (h : Par w V sb rb most R N s t) : ∀ k, V.heap.size ≤ k → Zn w R k := fun k hk => ⟨Nat.le_trans h.below.size hk, by
  by_cases e : R k = 0
  · exact e
  · have := (h.one.bnd k e).2; omega⟩
/-- within the law -/
structure TlI (w wr : World) (sb rb most : Nat) (R : Roles) (ns : List ByteArray) (i : Nat) (s : Whl) : Prop where
  par : Par w wr sb rb most R (sumZ (ns.take i)) s s
  gd : Gd most s
  wt : Sm.wt s ≤ 2000 * sumZ (ns.take i)
theorem sumZ_allT (ns : List ByteArray) : ∀ i, sumZ (ns.take i) ≤ sumZ ns := by
  intro i
  have h : sumZ ns = sumZ (ns.take i) + sumZ (ns.drop i) := by
    unfold sumZ
    rw [← List.sum_append, ← List.map_append, List.take_append_drop]
  omega
theorem env_rcpT {st : Ses} (h : Inv most st) : (envOf st).rcp.length ≤ 1000000 := by
  have := h.few
  unfold envOf
  split
  · show st.to.length ≤ _; omega
  · exact Nat.zero_le _
theorem body_wt {s : Whl} {n : Nat} (h : Sm.wt s ≤ n) : (s.st.body.getD []).length ≤ n := by
  unfold Sm.wt wtS at h
  omega
theorem answer_noT {st : Ses} (h : st.waits = false) (e : Int) : answerW st e = (st, []) := by
  unfold answerW
  rw [if_pos h]
theorem answer_again (st : Ses) (e : Int) : answerW (answerW st e).1 0 = ((answerW st e).1, []) := answer_noT (answerW_waits st e) 0
set_option maxHeartbeats 8000000 in
set_option maxRecDepth 100000 in
theorem smtpTells_any (m0 : Int) (lv av : Value) (ns : List ByteArray) (ans : List Int) (hC : Ctx G w) (hL : StrIn w lv ns) (hA : IntIn .i64 w.heap.size w av ans) :
    Calls Tryz.prog 3 #[.int .i64 m0, lv, av] w fun e w' => e = .returned (.bool true) ∧ Below w.heap.size w w' := by
  have HC := Lib.hid (Ctx.self hC)
  have HS := Lib.hid (small_any w hC)
  have HL := Lib.hid hL
  obtain ⟨⟨p, c, rfl, hc, hp⟩, -⟩ := hL
  obtain ⟨pA, cA, rfl, hcA, hA2⟩ := hA
  have HP := Lib.hid hp
  have HA2 := Lib.hid hA2
  clear hC hp hA2
  go_enter Tryz.func3, Tryz.ntmps3
  go_wp2_with fail
  refine HS.out.mono ?_
  rintro e w1 ⟨rfl, hb1⟩
  have HF := Lib.hid (few_any _ ns (HL.out.below hb1))
  have HN1 := Lib.hid (ses_new m0 (HC.out.below hb1))
  have HB1 := Lib.hid hb1
  clear hb1
  go_wp2_with fail
  refine HF.out.mono ?_
  rintro e w2 ⟨Bf, rfl, rfl, hBf⟩
  cases Bf with
  | false =>
    clear hBf
    go_wp2
    go_ret
    exact ⟨rfl, HB1.out⟩
  | true =>
    obtain ⟨hn60, hz6⟩ := hBf rfl
    have hm := (clampM_le m0).2
    have HZ := Lib.hid (And.intro hn60 (And.intro hz6 hm))
    clear hBf hn60 hz6 hm HF HS
    go_wp2_with fail
    refine HN1.out.mono ?_
    rintro e w3 ⟨sb, R3, rfl, hs3, hR3, hb3⟩
    have HN2 := Lib.hid (refNew m0 w3)
    have H3 := Lib.hid (And.intro hs3 (HB1.out.trans (hb3.mono HB1.out.size)))
    clear hs3 hR3 hb3
    go_wp2_with fail
    refine HN2.out.mono ?_
    rintro e w4 ⟨rb, rfl, hr4, hb4⟩
    have h4 : Par w w4 sb rb (clampM m0) R3 0 begin0 begin0 := ⟨H3.out.1.below hb4, hr4.zone fun k hk hz => ⟨Nat.le_trans H3.out.2.size hz, by
      by_cases e : R3 k = 0
      · exact e
      · have := (H3.out.1.bnd k e).2; omega⟩, H3.out.2.trans (hb4.mono H3.out.2.size)⟩
    clear hr4 hb4 HN2 HN1
    generalize clampM m0 = most at *
    have hG1 := ses_greet h4.one
    have hG2 := fun w => greetR_any (.pointer (some ⟨rb, 0, none⟩)) w
    obtain ⟨GT, hGT⟩ : ∃ GT, GT = bt (repW 220) := ⟨_, rfl⟩
    unfold StpT at hG1
    rw [← hGT] at hG1 hG2
    have qG : (GT.toList == GT.toList) = true := beq_self_eq_true _
    have HG1 := Lib.hid hG1
    have HG2 := Lib.hid hG2
    have H4 := Lib.hid h4
    clear hG1 hG2 hGT h4 H3
    go_wp2_with fail
    refine HG1.out.mono ?_
    rintro e w5 ⟨rfl, hst⟩
    obtain ⟨R5, h5⟩ := H4.out.step1 hst
    have H5 := Lib.hid h5
    clear hst h5 HG1
    go_wp2_with fail
    refine (HG2.out _).mono ?_
    rintro e w6 ⟨rfl, hb6⟩
    have hI0 : Hid (TlI w w6 sb rb most R5 ns 0 begin0) := ⟨H5.out.later hb6, gd0 _, Nat.zero_le _⟩
    clear hb6 H4 H5 HG2
    go_wp2_with fail
    go_loopg [10, 11] ns.length (fun g kv iv wr => ∃ (i k : Nat) (s : Whl) (R : Roles), i + g = ns.length ∧ iv = .int .i64 i ∧ kv = .int .i64 k ∧ k ≤ i ∧ Hid (TlI w wr sb rb most R ns i s))
    case atStart => exact ⟨0, 0, _, R5, by omega, rfl, rfl, Nat.le_refl _, hI0⟩
    case round =>
      clear hI0
      obtain ⟨i, k, s, R, hi, rfl, rfl, hki, hI⟩ := hrel
      by_cases hl : i < ns.length
      · have u1 : decide ((i : Int) < (ns.length : Int)) = true := decide_eq_true (by omega)
        have u3 : (i : Int) < (ns.length : Int) := by omega
        have u6 : IntKind.i64.wrap ((i : Int) + 1) = (i : Int) + 1 := w64 rfl (by omega) (by have := HZ.out; omega)
        have u7 : IntKind.i64.wrap ((k : Int) + 1) = (k : Int) + 1 := w64 rfl (by omega) (by have := HZ.out; omega)
        rcases HP.out with hp | ⟨g, o, rfl, hcell⟩
        · rw [hp] at hl; cases hl
        · have hxw := hcell i hl
          obtain ⟨X, hX⟩ : ∃ X, X = ns[i] := ⟨_, rfl⟩
          rw [← hX] at hxw
          have hzi := sumZ_take ns i hl
          have hza := sumZ_allT ns (i + 1)
          rw [← hX] at hzi
          have hXl : X.data.toList.length = X.size := rfl
          have hzn := HZ.out.2.1
          have hwt := hI.out.wt
          have hFd := feed_any hI.out.par.one HZ.out.2.2 hI.out.gd X (by omega) (by omega)
          have hgf := hI.out.gd.feed X.data.toList
          have hwf := feed_wt HZ.out.2.2 hI.out.gd X.data.toList
          have hRf := fun (w5 : World) (R5 : Roles) (h5 : Par w w5 sb rb most R5 (sumZ (ns.take i)) (feedW most s X.data.toList).1 s) => refFeed h5.ref h5.up HZ.out.2.2 hI.out.gd X (by omega) (by omega) (by omega)
          obtain ⟨FW, hFW⟩ : ∃ FW, FW = feedW most s X.data.toList := ⟨_, rfl⟩
          rw [← hFW] at hFd hgf hwf hRf
          have hN : sumZ (ns.take i) + X.size = sumZ (ns.take (i + 1)) := hzi.symm
          rw [hN] at hRf
          obtain ⟨T, hT⟩ : ∃ T, T = bt FW.2 := ⟨_, rfl⟩
          obtain ⟨Wt, hWt⟩ : ∃ Wt, Wt = FW.1.st.waits := ⟨_, rfl⟩
          obtain ⟨Ov, hOv⟩ : ∃ Ov, Ov = FW.1.st.over := ⟨_, rfl⟩
          unfold FedIs at hFd
          unfold FedR at hRf
          rw [← hT, ← hWt] at hFd
          simp only [← hT, ← hWt] at hRf
          have qT : (T.toList == T.toList) = true := beq_self_eq_true _
          have hx0 := cell_later hI.out.par.below hxw
          have HI2 := Lib.hid (And.intro hi (And.intro hl (And.intro hki (And.intro hgf (And.intro (show Sm.wt FW.1 ≤ 2000 * sumZ (ns.take (i + 1)) by omega) (show 2000 * sumZ (ns.take (i + 1)) ≤ 100000000 by omega))))))
          have HFd := Lib.hid hFd
          have HRf := Lib.hid hRf
          have HXw := Lib.hid hxw
          have HW := Lib.hid (And.intro hWt hOv)
          clear hFd hgf hwf hRf hFW hN hT hWt hOv hxw hzi hza hXl hzn hwt hcell hX hi hl hki
          go_wp2_with fail
          refine HFd.out.mono ?_
          rintro e w5 ⟨rfl, hst⟩
          obtain ⟨R5, h5⟩ := hI.out.par.step1 hst
          have hx5 := cell_later h5.below HXw.out
          have hR5 := HRf.out w5 R5 h5
          have H5 := Lib.hid h5
          have HR5 := Lib.hid hR5
          clear hst h5 hR5 HFd hx0
          go_wp2_with fail
          refine HR5.out.mono ?_
          rintro e w6 ⟨rfl, hr6, hf6⟩
          have h6 := H5.out.step2 hr6 hf6
          have hO1 := ses_over h6.one
          have hO2 := refOver h6.ref
          rw [← HW.out.2] at hO1 hO2
          have HO1 := Lib.hid hO1
          have HO2 := Lib.hid hO2
          have HM1 := Lib.hid (mailA_any h6.one HI2.out.2.2.2.1.inv (body_wt (Nat.le_trans HI2.out.2.2.2.2.1 HI2.out.2.2.2.2.2)))
          have H6 := Lib.hid h6
          clear hr6 hf6 hO1 hO2 h6 H5 HR5 HRf hx5
          go_wp2_with fail
          refine HO1.out.mono ?_
          rintro e wa ⟨rfl, rfl⟩
          go_wp2_with fail
          refine HO2.out.mono ?_
          rintro e wb ⟨rfl, rfl⟩
          go_wp2_with fail
          refine HM1.out.mono ?_
          rintro e w7 ⟨r1, rfl, he1, hs7, hf7⟩
          have h7 := H6.out.next hs7 (Ext.refl _ _) hf7
          have HM2 := Lib.hid (refMailA h7.ref HI2.out.2.2.2.1.inv)
          have H7 := Lib.hid (And.intro h7 he1)
          clear he1 hs7 hf7 h7 HO1 HO2 HM1 H6
          go_wp2_with fail
          refine HM2.out.mono ?_
          rintro e w8 ⟨r2, rfl, he2, -, hb8⟩
          have h8 := H7.out.1.later hb8
          have he1 : EnvAt w8 (fun _ => True) r1 (envOf FW.1.st) := H7.out.2.keepsB (fun g _ hgl => hb8.block g hgl) hb8.size (fun _ _ _ => trivial)
          have HSm := Lib.hid (same_any r1 r2 (envOf FW.1.st) he1 he2 (env_rcpT HI2.out.2.2.2.1.inv))
          have H8 := Lib.hid h8
          clear he1 he2 hb8 h8 H7 HM2
          go_wp2_with fail
          refine HSm.out.mono ?_
          rintro e w9 ⟨rfl, hb9⟩
          have H9 := Lib.hid (H8.out.later hb9)
          clear hb9 H8 HSm
          cases Wt with
          | false =>
            have HNx : Hid (TlI w w9 sb rb most R5 ns (i + 1) FW.1) := ⟨H9.out, HI2.out.2.2.2.1, HI2.out.2.2.2.2.1⟩
            go_wp2
            go_roundg (ns.length - (i + 1))
            case rel => exact ⟨i + 1, k, FW.1, R5, by have := HI2.out; omega, rfl, rfl, by have := HI2.out; omega, HNx⟩
            case measure => have := HI2.out; omega
          | true =>
            by_cases hk : k < ans.length
            · have v1 : decide ((k : Int) < (ans.length : Int)) = true := decide_eq_true (by omega)
              have v3 : (k : Int) < (ans.length : Int) := by omega
              rcases HA2.out with hA | ⟨gA, oA, hgA, rfl, hcA2⟩
              · rw [hA] at hk; cases hk
              · have hcw := hcA2 k hk
                obtain ⟨E, hE⟩ : ∃ E, E = ans[k] := ⟨_, rfl⟩
                rw [← hE] at hcw
                have h9d : Par w w9.drew sb rb most R5 (sumZ (ns.take (i + 1))) FW.1 FW.1 := H9.out.later (Below.refl _ _).drew
                have hce : w9.drew.cell? ⟨gA, oA + k, none⟩ = some (.int .i64 E) := cell_later h9d.below hcw
                have hAn := ses_answer h9d.one E
                have hga := HI2.out.2.2.2.1.answer E
                have hwa := answer_wt' (s := FW.1) E
                have hag := answer_again FW.1.st E
                have hRa := fun (w10 : World) (R10 : Roles) (h10 : Par w w10 sb rb most R10 (sumZ (ns.take (i + 1))) ⟨(answerW FW.1.st E).1, FW.1.rest, FW.1.kept⟩ FW.1) => refAnswer h10.ref HI2.out.2.2.2.1.inv.bod E
                obtain ⟨AW, hAW⟩ : ∃ AW, AW = answerW FW.1.st E := ⟨_, rfl⟩
                rw [← hAW] at hAn hga hwa hag
                simp only [← hAW] at hRa
                obtain ⟨TA, hTA⟩ : ∃ TA, TA = bt AW.2 := ⟨_, rfl⟩
                unfold StpT at hAn
                unfold StR at hRa
                rw [← hTA] at hAn
                simp only [← hTA] at hRa
                have qA : (TA.toList == TA.toList) = true := beq_self_eq_true _
                have HAn := Lib.hid hAn
                have HRa := Lib.hid hRa
                have HD := Lib.hid h9d
                have HE := Lib.hid hcw
                have HG := Lib.hid (And.intro hga (And.intro hag (show Sm.wt ⟨AW.1, FW.1.rest, FW.1.kept⟩ ≤ 2000 * sumZ (ns.take (i + 1)) from by have h8 := HI2.out.2.2.2.2.1; have h9 : AW.2.length + Sm.wt ⟨AW.1, FW.1.rest, FW.1.kept⟩ ≤ Sm.wt FW.1 := hwa; omega)))
                clear hAn hga hwa hag hRa hAW hTA h9d hcw hE hcA2 hk
                go_wp2_with fail
                refine wp_region_heldO (fun V => V.cell? ⟨gA, oA + k, none⟩ = some (.int .i64 E)) 18 (by kernel_rfl) rfl hce (fun hHeld => ?_)
                refine takeO (v := ?_) 0 rfl (by kernel_rfl) (by kernel_rfl) (by kernel_rfl) (by rfl) ?_ hHeld ?_
                rotate_left
                · intro w hSw
                  (try dsimp only at hSw)
                  go_simp
                  first | done | with_reducible rfl
                simp only [Act.put, List.setIfInBounds_toArray, List.set_cons_zero, List.set_cons_succ]
                refine takeO (v := ?_) 1 rfl (by kernel_rfl) (by kernel_rfl) (by kernel_rfl) (by rfl) ?_ hHeld ?_
                rotate_left
                · intro w hSw
                  (try dsimp only at hSw)
                  go_simp
                  first | done | with_reducible rfl
                simp only [Act.put, List.setIfInBounds_toArray, List.set_cons_zero, List.set_cons_succ]
                refine takeO (v := ?_) 2 rfl (by kernel_rfl) (by kernel_rfl) (by kernel_rfl) (by rfl) ?_ hHeld ?_
                rotate_left
                · intro w hSw
                  (try dsimp only at hSw)
                  go_simp
                  first | done | with_reducible rfl
                simp only [Act.put, List.setIfInBounds_toArray, List.set_cons_zero, List.set_cons_succ]
                refine takeO (v := ?_) 3 rfl (by kernel_rfl) (by kernel_rfl) (by kernel_rfl) (by rfl) ?_ hHeld ?_
                rotate_left
                · intro w hSw
                  (try dsimp only at hSw)
                  go_simp
                  first | done | with_reducible rfl
                simp only [Act.put, List.setIfInBounds_toArray, List.set_cons_zero, List.set_cons_succ]
                refine takeO (v := ?_) 4 rfl (by kernel_rfl) (by kernel_rfl) (by kernel_rfl) (by rfl) ?_ hHeld ?_
                rotate_left
                · intro w hSw
                  (try dsimp only at hSw)
                  go_simp
                  first | done | with_reducible rfl
                simp only [Act.put, List.setIfInBounds_toArray, List.set_cons_zero, List.set_cons_succ]
                refine takeO (v := ?_) 6 rfl (by kernel_rfl) (by kernel_rfl) (by kernel_rfl) (by rfl) ?_ hHeld ?_
                rotate_left
                · intro w hSw
                  (try dsimp only at hSw)
                  go_simp
                  first | done | with_reducible rfl
                simp only [Act.put, List.setIfInBounds_toArray, List.set_cons_zero, List.set_cons_succ]
                refine takeO (v := ?_) 7 rfl (by kernel_rfl) (by kernel_rfl) (by kernel_rfl) (by rfl) ?_ hHeld ?_
                rotate_left
                · intro w hSw
                  (try dsimp only at hSw)
                  go_simp
                  first | done | with_reducible rfl
                simp only [Act.put, List.setIfInBounds_toArray, List.set_cons_zero, List.set_cons_succ]
                refine takeO (v := ?_) 8 rfl (by kernel_rfl) (by kernel_rfl) (by kernel_rfl) (by rfl) ?_ hHeld ?_
                rotate_left
                · intro w hSw
                  (try dsimp only at hSw)
                  go_simp
                  first | done | with_reducible rfl
                simp only [Act.put, List.setIfInBounds_toArray, List.set_cons_zero, List.set_cons_succ]
                refine takeO (v := ?_) 9 rfl (by kernel_rfl) (by kernel_rfl) (by kernel_rfl) (by rfl) ?_ hHeld ?_
                rotate_left
                · intro w hSw
                  (try dsimp only at hSw)
                  go_simp
                  first | done | with_reducible rfl
                simp only [Act.put, List.setIfInBounds_toArray, List.set_cons_zero, List.set_cons_succ]
                refine takeO (v := ?_) 10 rfl (by kernel_rfl) (by kernel_rfl) (by kernel_rfl) (by rfl) ?_ hHeld ?_
                rotate_left
                · intro w hSw
                  (try dsimp only at hSw)
                  go_simp
                  first | done | with_reducible rfl
                simp only [Act.put, List.setIfInBounds_toArray, List.set_cons_zero, List.set_cons_succ]
                refine callO (f := 21) (args := #[.pointer (some ⟨sb, 0, none⟩), .int .i64 E]) 5 rfl (by kernel_rfl) (by rfl) (by go_simp) (HAn.out.mono ?_)
                rintro e w10 ⟨rfl, hst⟩
                obtain ⟨R10, h10⟩ := HD.out.step1 hst
                have hce := cell_later h10.below HE.out
                have HRx := Lib.hid (HRa.out w10 R10 h10)
                have H10 := Lib.hid h10
                clear hst h10 hHeld
                refine ⟨_, rfl, hce, ?_⟩
                simp only [Act.put, List.setIfInBounds_toArray, List.set_cons_zero, List.set_cons_succ]
                refine callO (f := 22) (args := #[.pointer (some ⟨rb, 0, none⟩), .int .i64 E]) 11 rfl (by kernel_rfl) (by rfl) (by go_simp) (HRx.out.mono ?_)
                rintro e w11 ⟨rfl, hr11, hf11⟩
                have h11 := H10.out.step2 hr11 hf11
                have hce := cell_later h11.below HE.out
                have hA2 := ses_answer h11.one 0
                replace hA2 : Calls Tryz.prog 21 #[.pointer (some ⟨sb, 0, none⟩), .int .i64 0] w11 (StpT w.heap.size w11 sb most R10 ⟨(answerW AW.1 0).1, FW.1.rest, FW.1.kept⟩ (answerW AW.1 0).2) := hA2
                rw [HG.out.2.1] at hA2
                replace hA2 : Calls Tryz.prog 21 #[.pointer (some ⟨sb, 0, none⟩), .int .i64 0] w11 (fun e w' => e = .returned (.string ⟨#[]⟩) ∧ Stp w.heap.size w11 sb most R10 w' ⟨AW.1, FW.1.rest, FW.1.kept⟩) := hA2
                have HA3 := Lib.hid hA2
                have H11 := Lib.hid h11
                clear hr11 hf11 h11 hA2
                refine ⟨_, rfl, hce, ?_⟩
                simp only [Act.put, List.setIfInBounds_toArray, List.set_cons_zero, List.set_cons_succ]
                have hHeld := hce
                refine takeO (v := ?_) 12 rfl (by kernel_rfl) (by kernel_rfl) (by kernel_rfl) (by rfl) ?_ hHeld ?_
                rotate_left
                · intro w hSw
                  (try dsimp only at hSw)
                  go_simp
                  first | done | with_reducible rfl
                simp only [Act.put, List.setIfInBounds_toArray, List.set_cons_zero, List.set_cons_succ]
                refine takeO (v := ?_) 13 rfl (by kernel_rfl) (by kernel_rfl) (by kernel_rfl) (by rfl) ?_ hHeld ?_
                rotate_left
                · intro w hSw
                  (try dsimp only at hSw)
                  go_simp
                  first | done | with_reducible rfl
                simp only [Act.put, List.setIfInBounds_toArray, List.set_cons_zero, List.set_cons_succ]
                refine takeO (v := ?_) 14 rfl (by kernel_rfl) (by kernel_rfl) (by kernel_rfl) (by rfl) ?_ hHeld ?_
                rotate_left
                · intro w hSw
                  (try dsimp only at hSw)
                  go_simp
                  first | done | with_reducible rfl
                simp only [Act.put, List.setIfInBounds_toArray, List.set_cons_zero, List.set_cons_succ]
                refine callO (f := 21) (args := #[.pointer (some ⟨sb, 0, none⟩), .int .i64 0]) 15 rfl (by kernel_rfl) (by rfl) (by go_simp) (HA3.out.mono ?_)
                rintro e w12 ⟨rfl, hst⟩
                obtain ⟨R12, h12⟩ := H11.out.step1 hst
                have hce := cell_later h12.below HE.out
                have HNx : Hid (TlI w w12 sb rb most R12 ns (i + 1) ⟨AW.1, FW.1.rest, FW.1.kept⟩) := ⟨h12, HG.out.1, HG.out.2.2⟩
                clear hst h12 hHeld
                refine ⟨_, rfl, hce, ?_⟩
                simp only [Act.put, List.setIfInBounds_toArray, List.set_cons_zero, List.set_cons_succ]
                have hHeld := hce
                refine takeO (v := ?_) 16 rfl (by kernel_rfl) (by kernel_rfl) (by kernel_rfl) (by rfl) ?_ hHeld ?_
                rotate_left
                · intro w hSw
                  (try dsimp only at hSw)
                  go_simp
                  first | done | with_reducible rfl
                simp only [Act.put, List.setIfInBounds_toArray, List.set_cons_zero, List.set_cons_succ]
                refine takeO (v := ?_) 17 rfl (by kernel_rfl) (by kernel_rfl) (by kernel_rfl) (by rfl) ?_ hHeld ?_
                rotate_left
                · intro w hSw
                  (try dsimp only at hSw)
                  go_simp
                  first | done | with_reducible rfl
                simp only [Act.put, List.setIfInBounds_toArray, List.set_cons_zero, List.set_cons_succ]
                refine doneO (by kernel_rfl) ?_
                clear hHeld hce
                go_wp2
                go_roundg (ns.length - (i + 1))
                case rel => exact ⟨i + 1, (k + 1), _, R12, by have := HI2.out; omega, rfl, rfl, by have := HI2.out; omega, HNx⟩
                case measure => have := HI2.out; omega
            · have v1 : decide ((k : Int) < (ans.length : Int)) = false := decide_eq_false (by omega)
              have v2 : decide (k < ans.length) = false := decide_eq_false hk
              have HNx : Hid (TlI w w9 sb rb most R5 ns (i + 1) FW.1) := ⟨H9.out, HI2.out.2.2.2.1, HI2.out.2.2.2.2.1⟩
              clear hk
              go_wp2
              go_roundg (ns.length - (i + 1))
              case rel => exact ⟨i + 1, k, FW.1, R5, by have := HI2.out; omega, rfl, rfl, by have := HI2.out; omega, HNx⟩
              case measure => have := HI2.out; omega
      · have u1 : decide ((i : Int) < (ns.length : Int)) = false := decide_eq_false (by omega)
        have u2 : decide (i < ns.length) = false := decide_eq_false hl
        clear hi hl
        go_wp2
        go_ret
        exact ⟨rfl, hI.out.par.below⟩
end
end Go.Proofs.YtjoipgekmnnlpaaGreatDoor
