/- Walks: the reference's Row: word, is, wrong, mark, name. Walks: the reference's Row: wrong, mark, name. Walks: the reference's Row: list. Walks: the reference's Row: args. Walks: the reference's Row: test, tests. Walks: the reference's Row: command. -/
import Derived.Test.YtgimgkjggaijoaaGreatDoorSvCm
namespace Go.Proofs.YtgimgkjggaijoaaGreatDoor
open Go.RowKit Pk Lx Sv

/-- the row's block: the whole list, the index, the length of the script, the error and its place -/
def RowV (w : World) (rb : Nat) (v : Value) (K : Nat) (E e a : Int) : Prop := w.heap[rb]? = some (.cells #[v, .int .i64 K, .int .i64 E, .int .i64 e, .int .i64 a] 63)
def RowQ (w : World) (rb : Nat) (l : List Lex) (E e a : Int) : Prop := ∃ v K L, RowV w rb v K E e a ∧ l = L.drop K ∧ K ≤ L.length ∧ L.length ≤ 1000000 ∧ ReadsR lexLay w (· < rb) v L
theorem RowV.cells {w : World} {rb : Nat} {v : Value} {K : Nat} {E e a : Int} (h : RowV w rb v K E e a) :
    w.cell? ⟨rb, 0, none⟩ = some v ∧ w.cell? ⟨rb, 1, none⟩ = some (.int .i64 K) ∧ w.cell? ⟨rb, 2, none⟩ = some (.int .i64 E) ∧ w.cell? ⟨rb, 3, none⟩ = some (.int .i64 e) ∧ w.cell? ⟨rb, 4, none⟩ = some (.int .i64 a) := cell5 h
theorem RowV.frz {w : World} {rb : Nat} {v : Value} {K : Nat} {E e a : Int} (h : RowV w rb v K E e a) (o : Nat) : w.frozen? ⟨rb, o, none⟩ = false := by
  unfold RowV at h
  unfold World.frozen?
  simp [h]
theorem RowV.lt {w : World} {rb : Nat} {v : Value} {K : Nat} {E e a : Int} (h : RowV w rb v K E e a) : rb < w.heap.size := lt_of_block h
theorem RowQ.lt {w : World} {rb : Nat} {l : List Lex} {E e a : Int} (h : RowQ w rb l E e a) : rb < w.heap.size := by
  obtain ⟨v, K, L, h1, -⟩ := h
  exact h1.lt
theorem RowQ.below {w w' : World} {rb : Nat} {l : List Lex} {E e a : Int} (h : RowQ w rb l E e a) (hb : Below w.heap.size w w') : RowQ w' rb l E e a := by
  have hl := h.lt
  obtain ⟨v, K, L, h1, h2, h3, h4, h5⟩ := h
  exact ⟨v, K, L, (hb.block rb hl).trans h1, h2, h3, h4, h5.keeps (fun g _ hg => hb.block g hg) hb.size fun _ h => h⟩
/-- the cells of an element -/
theorem reads_at {w : World} {X : Nat → Prop} {v : Value} {L : List Lex} (h : ReadsR lexLay w X v L) (j : Nat) (hj : j < L.length) :
    ∃ g o c, v = .slice (some ⟨g, o, none⟩) L.length c ∧ L.length ≤ c ∧ X g ∧ g < w.heap.size ∧
      w.cell? ⟨g, o + j * 4, none⟩ = some (.int .i64 L[j].k) ∧ w.cell? ⟨g, o + j * 4 + 1, none⟩ = some (.string L[j].t) ∧ w.cell? ⟨g, o + j * 4 + 2, none⟩ = some (.int .i64 L[j].n) ∧ w.cell? ⟨g, o + j * 4 + 3, none⟩ = some (.int .i64 L[j].a) := by
  obtain ⟨p, c, rfl, h2, h3⟩ := h
  rcases h3 with rfl | ⟨g, o, rfl, h5, h6, h7⟩
  · simp at hj
  · exact ⟨g, o, c, rfl, h2, h5, h6, h7 j hj 0 _ rfl, h7 j hj 1 _ rfl, h7 j hj 2 _ rfl, h7 j hj 3 _ rfl⟩
theorem drop_front (E : Int) (L : List Lex) (K : Nat) : (∀ h : K < L.length, frontL E 0 (L.drop K) = L[K]) ∧ (¬ K < L.length → frontL E 0 (L.drop K) = zeroL E) := by
  refine ⟨fun h => by rw [List.drop_eq_getElem_cons h]; rfl, fun h => by rw [List.drop_eq_nil_of_le (by omega)]; rfl⟩
set_option maxHeartbeats 4000000 in
set_option maxRecDepth 100000 in
theorem wordR_any (rb : Nat) (l : List Lex) (E e a : Int) (w : World) (h : RowQ w rb l E e a) : Calls Tryz.prog 96 #[.pointer (some ⟨rb, 0, none⟩)] w fun e w' => e = .returned (lexV (frontL E 0 l)) ∧ Below w.heap.size w w' := by
  have hlt := h.lt
  obtain ⟨v, K, L, h1, rfl, hK, hL, h2⟩ := h
  obtain ⟨c0, c1, c2, -, -⟩ := h1.cells
  obtain ⟨d1, d2⟩ := drop_front E L K
  have hA := (Below.refl w.heap.size w).alloc (Nat.le_refl _) (.cells #[.int .i64 0, .string ⟨#[]⟩, .int .i64 0, .int .i64 0] 41)
  have hkA : (w.alloc (.cells #[.int .i64 0, .string ⟨#[]⟩, .int .i64 0, .int .i64 0] 41)).heap[w.heap.size]? = some (.cells #[.int .i64 0, .string ⟨#[]⟩, .int .i64 0, .int .i64 0] 41 (0, 0)) := heap_alloc_new w _
  by_cases hlt2 : K < L.length
  · rw [d1 hlt2]
    obtain ⟨g, o, c, rfl, h3, h4, h5, e0, e1, e2, e3⟩ := reads_at h2 K hlt2
    obtain ⟨x, hx⟩ : ∃ x, x = L[K] := ⟨_, rfl⟩
    rw [← hx] at e0 e1 e2 e3 ⊢
    clear hx h1 h2 d1 d2
    go_enter Tryz.func96, Tryz.ntmps96
    go_wp2_with fail
    generalize w.alloc (.cells #[.int .i64 0, .string ⟨#[]⟩, .int .i64 0, .int .i64 0] 41) = wA at *
    replace c0 := cell_later hA c0
    replace c1 := cell_later hA c1
    replace e0 := cell_later hA e0
    replace e1 := cell_later hA e1
    replace e2 := cell_later hA e2
    replace e3 := cell_later hA e3
    go_quiet (fail)
    have hB := hA.trans ((below_drawS wA nq).mono hA.size)
    replace c0 := cell_later (below_drawS wA nq) c0
    replace c1 := cell_later (below_drawS wA nq) c1
    replace e0 := cell_later (below_drawS wA nq) e0
    replace e1 := cell_later (below_drawS wA nq) e1
    replace e2 := cell_later (below_drawS wA nq) e2
    replace e3 := cell_later (below_drawS wA nq) e3
    obtain ⟨⟨z0, z1, z2, z3⟩, f0, f1, f2, f3⟩ := four_later hkA (below_drawS wA nq)
    generalize wA.drewN nq = wB at *
    clear hkA
    go_wp2_with fail
    go_region_law (fail)
    all_goals
      go_wp2_with fail
      (try simp only [Exit.inBlock, Exit.then])
      refine bodyPost_ret (v := (lexV x)) (by simp [lexV, zeroL, results, Tryz.results96, go_sem, *]) rfl ?_
      first
        | exact ⟨rfl, set4X hB (Nat.le_refl _) _ _ _ _⟩
        | exact ⟨rfl, (set4X hB (Nat.le_refl _) _ _ _ _).drew⟩
  · rw [d2 hlt2]
    obtain ⟨p, c, rfl, -, -⟩ := h2
    clear h1 d1 d2
    go_enter Tryz.func96, Tryz.ntmps96
    go_wp2_with fail
    generalize w.alloc (.cells #[.int .i64 0, .string ⟨#[]⟩, .int .i64 0, .int .i64 0] 41) = wA at *
    replace c0 := cell_later hA c0
    replace c1 := cell_later hA c1
    replace c2 := cell_later hA c2
    go_quiet (fail)
    have hB := hA.trans ((below_drawS wA nq).mono hA.size)
    replace c2 := cell_later (below_drawS wA nq) c2
    obtain ⟨⟨z0, z1, z2, z3⟩, f0, f1, f2, f3⟩ := four_later hkA (below_drawS wA nq)
    generalize wA.drewN nq = wB at *
    clear hkA c0 c1
    go_wp2_with fail
    (try simp only [Exit.inBlock, Exit.then])
    refine bodyPost_ret (v := (lexV (zeroL E))) (by simp [lexV, zeroL, results, Tryz.results96, go_sem, *]) rfl ?_
    exact ⟨rfl, set4X hB (Nat.le_refl _) _ _ _ _⟩
theorem isM_front (c : UInt8) (S : ByteArray) (hS : S = ⟨#[c]⟩) (E : Int) (l : List Lex) : isM c l = (decide ((frontL E 0 l).k = 5) && ((frontL E 0 l).t.toList == S.toList)) := by
  subst hS
  cases l with
  | nil => rfl
  | cons x r =>
    show (decide (x.k = 5) && (x.t.data.toList == [c])) = (decide (x.k = 5) && (x.t.toList == (⟨#[c]⟩ : ByteArray).toList))
    rw [Lib.toList_data, Lib.toList_data]
set_option maxHeartbeats 4000000 in
set_option maxRecDepth 100000 in
theorem isR_any (rb : Nat) (l : List Lex) (E e a : Int) (S : ByteArray) (c : UInt8) (hS : S = ⟨#[c]⟩) (w : World) (h : RowQ w rb l E e a) : Calls Tryz.prog 54 #[.pointer (some ⟨rb, 0, none⟩), .string S] w fun e w' => e = .returned (.bool (isM c l)) ∧ Below w.heap.size w w' := by
  have HFr := Lib.hid (wordR_any rb l E e a w h)
  rw [isM_front c S hS E l]
  generalize frontL E 0 l = x at *
  unfold lexV at HFr
  have hA := fun w1 (hb : Below w.heap.size w w1) cs => hb.trans (((Below.refl w1.heap.size w1).alloc (Nat.le_refl _) cs).mono hb.size)
  have HA := Lib.hid hA
  clear h hS hA
  by_cases k5 : x.k = 5
  · have q1 : (x.k == 5) = true := beq_iff_eq.2 k5
    rw [decide_eq_true k5, Bool.true_and]
    clear k5
    go_enter Tryz.func54, Tryz.ntmps54
    go_wp2_with fail
    refine HFr.out.mono ?_
    rintro e w1 ⟨rfl, hb1⟩
    go_wp2
    go_ret
    exact ⟨rfl, HA.out _ hb1 _⟩
  · have q1 : (x.k == 5) = false := beq_eq_false_iff_ne.2 k5
    rw [decide_eq_false k5, Bool.false_and]
    clear k5
    go_enter Tryz.func54, Tryz.ntmps54
    go_wp2_with fail
    refine HFr.out.mono ?_
    rintro e w1 ⟨rfl, hb1⟩
    go_wp2
    go_ret
    exact ⟨rfl, HA.out _ hb1 _⟩
end Go.Proofs.YtgimgkjggaijoaaGreatDoor
namespace Go.Proofs.YtgimgkjggaijoaaGreatDoor
open Go.RowKit Pk Lx Sv

theorem RowV.set1 {w : World} {rb : Nat} {v : Value} {K : Nat} {E e a : Int} (h : RowV w rb v K E e a) (k : Nat) : RowV (w.setCell ⟨rb, 1, none⟩ (.int .i64 (k : Int))) rb v k E e a := block_set w rb 1 _ h
theorem RowV.set3 {w : World} {rb : Nat} {v : Value} {K : Nat} {E e a : Int} (h : RowV w rb v K E e a) (u : Int) : RowV (w.setCell ⟨rb, 3, none⟩ (.int .i64 u)) rb v K E u a := block_set w rb 3 _ h
theorem RowV.set4 {w : World} {rb : Nat} {v : Value} {K : Nat} {E e a : Int} (h : RowV w rb v K E e a) (u : Int) : RowV (w.setCell ⟨rb, 4, none⟩ (.int .i64 u)) rb v K E e u := block_set w rb 4 _ h
theorem reads_set {α : Type} {L : Lay α} {w : World} {rb o : Nat} {v u : Value} {l : List α} (h : ReadsR L w (· < rb) v l) : ReadsR L (w.setCell ⟨rb, o, none⟩ u) (· < rb) v l :=
  h.keeps (fun g hgl hg2 => (grownBy_set w rb o u).block g hg2 (fun e => by injection e with e; omega)) (grownBy_set w rb o u).size fun _ h => h
/-- what a step of the index needs -/
structure StepQ (w : World) (rb : Nat) (q : List Lex) (E e a : Int) (K : Nat) : Prop where
  le : K ≤ 1000000
  c1 : w.cell? ⟨rb, 1, none⟩ = some (.int .i64 (K : Int))
  f1 : w.frozen? ⟨rb, 1, none⟩ = false
  nx : RowQ (w.setCell ⟨rb, 1, none⟩ (.int .i64 ((K : Int) + 1))) rb q E e a
  wr : IntKind.i64.wrap ((K : Int) + 1) = (K : Int) + 1
theorem RowQ.step {w : World} {rb : Nat} {x : Lex} {q : List Lex} {E e a : Int} (h : RowQ w rb (x :: q) E e a) : ∃ K, StepQ w rb q E e a K := by
  obtain ⟨v, K, L, h1, h2, h3, h4, h5⟩ := h
  have hK : K < L.length := by
    rcases Nat.lt_or_ge K L.length with h | h
    · exact h
    · rw [List.drop_eq_nil_of_le h] at h2; cases h2
  rw [List.drop_eq_getElem_cons hK] at h2
  injection h2 with e1 e2
  exact ⟨K, by omega, h1.cells.2.1, h1.frz 1, ⟨v, K + 1, L, by simpa using h1.set1 (K + 1), e2, by omega, h4, reads_set h5⟩, w64 rfl (by omega) (by omega)⟩
theorem RowQ.grown {w w' : World} {rb b : Nat} {l : List Lex} {E e a : Int} (h : RowQ w rb l E e a) (hg : w.grownBy w' (some b)) (hb : rb < b) : RowQ w' rb l E e a := by
  have hl := h.lt
  obtain ⟨v, K, L, h1, h2, h3, h4, h5⟩ := h
  exact ⟨v, K, L, (hg.block rb hl (fun e => by injection e with e; omega)).trans h1, h2, h3, h4, h5.keeps (fun g hgl hg2 => hg.block g hg2 (fun e => by injection e with e; omega)) hg.size fun _ h => h⟩
theorem RowQ.own {w w' : World} {rb : Nat} {l : List Lex} {E e a : Int} {v : Value} (h : RowQ w rb l E e a) (hg : w.grownBy w' v.ownBlock) (hv : ∀ k, v.ownBlock = some k → rb < k) : RowQ w' rb l E e a := by
  have hl := h.lt
  obtain ⟨u, K, L, h1, h2, h3, h4, h5⟩ := h
  exact ⟨u, K, L, (hg.block rb hl (fun e => by have := hv rb e.symm; omega)).trans h1, h2, h3, h4, h5.keeps (fun g hgl hg2 => hg.block g hg2 (fun e => by have := hv g e.symm; omega)) hg.size fun _ h => h⟩
theorem RowQ.wrong {w : World} {rb : Nat} {l : List Lex} {E e a : Int} (h : RowQ w rb l E e a) (e1 a1 : Int) :
    w.frozen? ⟨rb, 3, none⟩ = false ∧ (∃ u, w.cell? ⟨rb, 3, none⟩ = some u) ∧ (∃ u, (w.setCell ⟨rb, 3, none⟩ (.int .i64 e1)).cell? ⟨rb, 4, none⟩ = some u) ∧ (w.setCell ⟨rb, 3, none⟩ (.int .i64 e1)).frozen? ⟨rb, 4, none⟩ = false ∧
      RowQ ((w.setCell ⟨rb, 3, none⟩ (.int .i64 e1)).setCell ⟨rb, 4, none⟩ (.int .i64 a1)) rb l E e1 a1 ∧ w.grownBy ((w.setCell ⟨rb, 3, none⟩ (.int .i64 e1)).setCell ⟨rb, 4, none⟩ (.int .i64 a1)) (some rb) := by
  obtain ⟨u, K, L, h1, h2, h3, h4, h5⟩ := h
  exact ⟨h1.frz 3, ⟨_, h1.cells.2.2.2.1⟩, ⟨_, (h1.set3 e1).cells.2.2.2.2⟩, (h1.set3 e1).frz 4, ⟨u, K, L, (h1.set3 e1).set4 a1, h2, h3, h4, reads_set (reads_set h5)⟩, grown_trans (grownBy_set w rb 3 _) (grownBy_set _ rb 4 _)⟩
/-- how much is left -/
def mq (w : World) (rb : Nat) : Nat := match w.cell? ⟨rb, 0, none⟩, w.cell? ⟨rb, 1, none⟩ with | some (.slice _ n _), some (.int _ k) => n - k.toNat | _, _ => 0
theorem mq_eq {w : World} {rb : Nat} {l : List Lex} {E e a : Int} (h : RowQ w rb l E e a) : mq w rb = l.length := by
  obtain ⟨u, K, L, h1, rfl, h3, h4, p, c, rfl, -⟩ := h
  unfold mq
  rw [h1.cells.1, h1.cells.2.1, List.length_drop]
  rfl
theorem atL_front (E : Int) (l : List Lex) : (frontL E 0 l).a = atL E l := by cases l <;> rfl
set_option maxHeartbeats 4000000 in
set_option maxRecDepth 100000 in
theorem wrongR_any (rb : Nat) (l : List Lex) (E e a e1 : Int) (w : World) (h : RowQ w rb l E e a) : Calls Tryz.prog 97 #[.pointer (some ⟨rb, 0, none⟩), .int .i64 e1] w fun e w' => e = .returned (.bool false) ∧ RowQ w' rb l E e1 (atL E l) ∧ w.grownBy w' (some rb) := by
  have hlt := h.lt
  have HW := Lib.hid (wordR_any rb l E e a w h)
  rw [← atL_front]
  have HH := Lib.hid (fun w1 (hb : Below w.heap.size w w1) => (h.below hb).wrong e1 (frontL E 0 l).a)
  generalize frontL E 0 l = x at *
  unfold lexV at HW
  clear h
  go_enter Tryz.func97, Tryz.ntmps97
  go_wp2_with fail
  refine HW.out.mono ?_
  rintro e w1 ⟨rfl, hb1⟩
  have hb := hb1.trans (((Below.refl w1.heap.size w1).alloc (Nat.le_refl _) (.cells #[.int .i64 x.k, .string x.t, .int .i64 x.n, .int .i64 x.a] 41)).mono hb1.size)
  have hn := heap_alloc_new w1 (.cells #[.int .i64 x.k, .string x.t, .int .i64 x.n, .int .i64 x.a] 41)
  obtain ⟨f3, ⟨u3, c3⟩, ⟨u4, c4⟩, f4, hR, hG⟩ := HH.out _ hb
  have hR := Lib.hid hR
  have hG := Lib.hid hG
  have y3 := (cell4 (((grownBy_set (w1.alloc (.cells #[.int .i64 x.k, .string x.t, .int .i64 x.n, .int .i64 x.a] 41)) rb 3 (.int .i64 e1)).block w1.heap.size (by simp) (fun e => by injection e with e; have := hb1.size; omega)).trans hn)).2.2.2
  clear HH HW hn
  go_wp2_with fail
  go_ret
  exact ⟨rfl, hR.out, grown_trans (below_grown hb _) hG.out⟩
theorem markR_yes (rb : Nat) (x : Lex) (r : List Lex) (E e a : Int) (S : ByteArray) (c : UInt8) (hS : S = ⟨#[c]⟩) (w : World) (h : RowQ w rb (x :: r) E e a) (hm : isM c (x :: r) = true) : Calls Tryz.prog 55 #[.pointer (some ⟨rb, 0, none⟩), .string S] w fun en w' => en = .returned (.bool true) ∧ RowQ w' rb r E e a ∧ w.grownBy w' (some rb) := by
  have HI := isR_any rb (x :: r) E e a S c hS w h
  rw [hm] at HI
  have HI := Lib.hid HI
  have HH := Lib.hid (fun w1 (hb : Below w.heap.size w w1) => h.below hb)
  clear h hm hS
  go_enter Tryz.func55, Tryz.ntmps55
  go_wp2_with fail
  refine HI.out.mono ?_
  rintro e w1 ⟨rfl, hb1⟩
  obtain ⟨K, hK, c1, f1, hN, hwr⟩ := (HH.out w1 hb1).step
  have hN := Lib.hid hN
  clear HI HH
  go_wp2_with fail
  go_ret
  exact ⟨rfl, hN.out, grown_trans (below_grown hb1 _) (grownBy_set _ _ _ _)⟩
theorem markR_no (rb : Nat) (l : List Lex) (E e a : Int) (S : ByteArray) (c : UInt8) (hS : S = ⟨#[c]⟩) (w : World) (h : RowQ w rb l E e a) (hm : ¬ isM c l = true) : Calls Tryz.prog 55 #[.pointer (some ⟨rb, 0, none⟩), .string S] w fun en w' => en = .returned (.bool false) ∧ RowQ w' rb l E 2 (atL E l) ∧ w.grownBy w' (some rb) := by
  have HI := isR_any rb l E e a S c hS w h
  rw [show isM c l = false by simpa using hm] at HI
  have HI := Lib.hid HI
  have HH := Lib.hid (fun w1 (hb : Below w.heap.size w w1) => wrongR_any rb l E e a 2 w1 (h.below hb))
  clear h hm hS
  go_enter Tryz.func55, Tryz.ntmps55
  go_wp2_with fail
  refine HI.out.mono ?_
  rintro e w1 ⟨rfl, hb1⟩
  go_wp2_with fail
  refine (HH.out w1 hb1).mono ?_
  rintro e w2 ⟨rfl, h2, hg2⟩
  go_wp2_with fail
  go_ret
  exact ⟨rfl, h2, grown_trans (below_grown hb1 _) hg2⟩
/-- what name leaves -/
def NameQ (w : World) (rb : Nat) (E : Int) (res : Res (ByteArray × Int)) (e : Ending) (w' : World) : Prop :=
  w.grownBy w' (some rb) ∧ ∃ x : Lex, match res with
    | .ok (p, q) => e = .returned (.tuple #[lexV x, .bool true]) ∧ RowQ w' rb q E 0 0 ∧ p = (x.t, x.a)
    | .error (e1, a1) => e = .returned (.tuple #[lexV x, .bool false]) ∧ ∃ q, RowQ w' rb q E e1 a1
theorem grown4 (W : World) (b : Nat) (v0 v1 v2 v3 : Value) : W.grownBy ((((W.setCell ⟨b, 0, none⟩ v0).setCell ⟨b, 1, none⟩ v1).setCell ⟨b, 2, none⟩ v2).setCell ⟨b, 3, none⟩ v3) (some b) :=
  grown_trans (grown_trans (grown_trans (grownBy_set W b 0 v0) (grownBy_set _ b 1 v1)) (grownBy_set _ b 2 v2)) (grownBy_set _ b 3 v3)
theorem drew_block {w : World} {i : Nat} {o : Obj} (h : w.heap[i]? = some o) : w.drew.heap[i]? = some o := h
/-- what stands behind the call that ends name -/
structure NmAt (w rw : World) (rb : Nat) (x : Lex) (w1 : World) : Prop where
  z0 : w1.heap[w.heap.size]? = some (.cells #[.int .i64 0, .string ⟨#[]⟩, .int .i64 0, .int .i64 0] 41)
  zX : w1.heap[rw.heap.size]? = some (.cells #[.int .i64 x.k, .string x.t, .int .i64 x.n, .int .i64 x.a] 41)
  gr : w.grownBy w1 (some rb)
theorem NmAt.next {w rw : World} {rb : Nat} {x : Lex} {w1 w2 : World} (h : NmAt w rw rb x w1) (hg : w1.grownBy w2 (some rb)) (h1 : rb < w.heap.size) (h2 : rb < rw.heap.size) : NmAt w rw rb x w2 :=
  ⟨(hg.block _ (lt_of_block h.z0) (fun e => by injection e with e; omega)).trans h.z0, (hg.block _ (lt_of_block h.zX) (fun e => by injection e with e; omega)).trans h.zX, grown_trans h.gr hg⟩
theorem RowQ.drew {w : World} {rb : Nat} {l : List Lex} {E e a : Int} (h : RowQ w rb l E e a) : RowQ w.drew rb l E e a := h.below (Below.refl _ _).drew
set_option maxHeartbeats 4000000 in
set_option maxRecDepth 100000 in
theorem nameW_any (rb : Nat) (l : List Lex) (E : Int) (d : Nat) (w : World) (h : RowQ w rb l E 0 0) : Calls Tryz.prog 51 #[.pointer (some ⟨rb, 0, none⟩), .int .i64 d] w (NameQ w rb E (nameR E d l)) := by
  have hlt := h.lt
  have hb0 := (Below.refl w.heap.size w).alloc (Nat.le_refl _) (.cells #[.int .i64 0, .string ⟨#[]⟩, .int .i64 0, .int .i64 0] 41)
  have hz0 := heap_alloc_new w (.cells #[.int .i64 0, .string ⟨#[]⟩, .int .i64 0, .int .i64 0] 41)
  have HW := wordR_any rb l E 0 0 _ (h.below hb0)
  have hgo : ∀ x w1, Below (w.alloc (.cells #[.int .i64 0, .string ⟨#[]⟩, .int .i64 0, .int .i64 0] 41)).heap.size (w.alloc (.cells #[.int .i64 0, .string ⟨#[]⟩, .int .i64 0, .int .i64 0] 41)) w1 →
      RowQ (w1.alloc (.cells #[.int .i64 x.k, .string x.t, .int .i64 x.n, .int .i64 x.a] 41)) rb l E 0 0 ∧ NmAt w w1 rb x (w1.alloc (.cells #[.int .i64 x.k, .string x.t, .int .i64 x.n, .int .i64 x.a] 41)) ∧ rb < w1.heap.size := fun x w1 hb1 => by
    have hb := hb1.alloc hb1.size (.cells #[.int .i64 x.k, .string x.t, .int .i64 x.n, .int .i64 x.a] 41)
    have hbw := hb0.trans (hb.mono hb0.size)
    refine ⟨h.below hbw, ⟨(hb.block _ (lt_of_block hz0)).trans hz0, heap_alloc_new w1 _, below_grown hbw _⟩, ?_⟩
    have := hb1.size
    have := hb0.size
    omega
  have HGo := Lib.hid hgo
  clear hgo hz0 hb0
  by_cases hk : (frontL E 0 l).k = 1
  · cases l with
    | nil => exact absurd (show (0 : Int) = 1 from hk) (by decide)
    | cons x r =>
      have hF : frontL E 0 (x :: r) = x := rfl
      rw [hF] at HW hk
      unfold lexV at HW
      have HW := Lib.hid HW
      have k1 : (x.k != 1) = false := by rw [hk]; rfl
      rw [nameR_cons, if_pos hk]
      clear hF hk h
      by_cases hd : 8 < d
      · rw [if_pos hd]
        have q : decide ((8 : Int) < (d : Int)) = true := decide_eq_true (by omega)
        clear hd
        go_enter Tryz.func51, Tryz.ntmps51
        go_wp2_with fail
        refine HW.out.mono ?_
        rintro e w1 ⟨rfl, hb1⟩
        obtain ⟨hR0, hN0, hl1⟩ := HGo.out x w1 hb1
        obtain ⟨x0, x1, x2, x3⟩ := cell4 hN0.zX
        clear HW HGo hb1
        have HH := Lib.hid (fun w5 (hb : Below (w1.alloc (.cells #[.int .i64 x.k, .string x.t, .int .i64 x.n, .int .i64 x.a] 41)).heap.size (w1.alloc (.cells #[.int .i64 x.k, .string x.t, .int .i64 x.n, .int .i64 x.a] 41)) w5) => wrongR_any rb (x :: r) E 0 0 10 w5 (hR0.below hb))
        have hD := Lib.hid (hN0.next (below_grown (Below.refl _ _).drew (some rb)) hlt hl1)
        clear hR0 hN0
        go_wp2_with fail
        go_region_law (first
          | (go_simp; go_at_call 97; (with_reducible refine (HH.out _ (Below.refl _ _).drew).mono ?_); rintro e w2 ⟨rfl, h2, hg2⟩; have hN2 := hD.out.next hg2 hlt hl1; obtain ⟨y0, y1, y2, y3⟩ := cell4 hN2.zX; obtain ⟨⟨u0, u1, u2, u3⟩, g0, g1, g2, g3⟩ := four_at hN2.z0; have hG := Lib.hid hN2.gr; clear hN2)
          | fail)
        all_goals
          go_wp2_with fail
          (try simp only [Exit.inBlock, Exit.then])
          refine bodyPost_ret (v := (.tuple #[.agg #[.int .i64 x.k, .string x.t, .int .i64 x.n, .int .i64 x.a], .bool false])) (by simp [lexV, zeroL, results, Tryz.results51, go_sem, *]) rfl ?_
          first
            | exact ⟨grown_fresh hG.out (grown4 _ _ _ _ _ _) (Nat.le_refl _), x, rfl, _, h2.grown (grown4 _ _ _ _ _ _) hlt⟩
            | exact ⟨grown_fresh hG.out (grown_trans (grown4 _ _ _ _ _ _) (below_grown (Below.refl _ _).drew _)) (Nat.le_refl _), x, rfl, _, (h2.grown (grown4 _ _ _ _ _ _) hlt).drew⟩
      · rw [if_neg hd]
        have q : decide ((8 : Int) < (d : Int)) = false := decide_eq_false (by omega)
        clear hd
        go_enter Tryz.func51, Tryz.ntmps51
        go_wp2_with fail
        refine HW.out.mono ?_
        rintro e w1 ⟨rfl, hb1⟩
        obtain ⟨hR0, hN0, hl1⟩ := HGo.out x w1 hb1
        obtain ⟨x0, x1, x2, x3⟩ := cell4 hN0.zX
        clear HW HGo hb1
        obtain ⟨K, hK, c1, f1, hN, hwr⟩ := hR0.step
        have hN2 := hN0.next (grownBy_set _ rb 1 (.int .i64 ((K : Int) + 1))) hlt hl1
        have hN := Lib.hid hN
        obtain ⟨y0, y1, y2, y3⟩ := cell4 hN2.zX
        obtain ⟨⟨u0, u1, u2, u3⟩, g0, g1, g2, g3⟩ := four_at hN2.z0
        have hG := hN2.gr
        clear hN0 hN2 hl1
        go_wp2_with fail
        (try simp only [Exit.inBlock, Exit.then])
        refine bodyPost_ret (v := (.tuple #[.agg #[.int .i64 x.k, .string x.t, .int .i64 x.n, .int .i64 x.a], .bool true])) (by simp [lexV, zeroL, results, Tryz.results51, go_sem, *]) rfl ?_
        exact ⟨grown_fresh hG (grown4 _ _ _ _ _ _) (Nat.le_refl _), x, rfl, hN.out.grown (grown4 _ _ _ _ _ _) hlt, rfl⟩
  · have e0 : nameR E d l = .error (2, atL E l) := by
      cases l with
      | nil => rfl
      | cons x r => rw [nameR_cons, if_neg (show ¬ x.k = 1 from hk)]; rfl
    rw [e0]
    generalize frontL E 0 l = x at *
    unfold lexV at HW
    have HW := Lib.hid HW
    have k1 : (x.k != 1) = true := bne_iff_ne.2 hk
    clear h hk e0
    go_enter Tryz.func51, Tryz.ntmps51
    go_wp2_with fail
    refine HW.out.mono ?_
    rintro e w1 ⟨rfl, hb1⟩
    obtain ⟨hR0, hN0, hl1⟩ := HGo.out x w1 hb1
    obtain ⟨x0, x1, x2, x3⟩ := cell4 hN0.zX
    clear HW HGo hb1
    have HH := Lib.hid (fun w5 (hb : Below (w1.alloc (.cells #[.int .i64 x.k, .string x.t, .int .i64 x.n, .int .i64 x.a] 41)).heap.size (w1.alloc (.cells #[.int .i64 x.k, .string x.t, .int .i64 x.n, .int .i64 x.a] 41)) w5) => wrongR_any rb l E 0 0 2 w5 (hR0.below hb))
    have hD := Lib.hid (hN0.next (below_grown (Below.refl _ _).drew (some rb)) hlt hl1)
    clear hR0 hN0
    go_wp2_with fail
    go_region_law (first
      | (go_simp; go_at_call 97; (with_reducible refine (HH.out _ (Below.refl _ _).drew).mono ?_); rintro e w2 ⟨rfl, h2, hg2⟩; have hN2 := hD.out.next hg2 hlt hl1; obtain ⟨y0, y1, y2, y3⟩ := cell4 hN2.zX; obtain ⟨⟨u0, u1, u2, u3⟩, g0, g1, g2, g3⟩ := four_at hN2.z0; have hG := Lib.hid hN2.gr; clear hN2)
      | fail)
    all_goals
      go_wp2_with fail
      (try simp only [Exit.inBlock, Exit.then])
      refine bodyPost_ret (v := (.tuple #[.agg #[.int .i64 x.k, .string x.t, .int .i64 x.n, .int .i64 x.a], .bool false])) (by simp [lexV, zeroL, results, Tryz.results51, go_sem, *]) rfl ?_
      first
        | exact ⟨grown_fresh hG.out (grown4 _ _ _ _ _ _) (Nat.le_refl _), x, rfl, _, h2.grown (grown4 _ _ _ _ _ _) hlt⟩
        | exact ⟨grown_fresh hG.out (grown_trans (grown4 _ _ _ _ _ _) (below_grown (Below.refl _ _).drew _)) (Nat.le_refl _), x, rfl, _, (h2.grown (grown4 _ _ _ _ _ _) hlt).drew⟩
end Go.Proofs.YtgimgkjggaijoaaGreatDoor
namespace Go.Proofs.YtgimgkjggaijoaaGreatDoor
open Go.RowKit Pk Lx Sv

/-- what list leaves -/
def ListQ (w : World) (rb : Nat) (E : Int) (res : Res (List ByteArray)) (e : Ending) (w' : World) : Prop :=
  w.grownBy w' (some rb) ∧ ∃ s : SlV, match res with
    | .ok (ts, r) => e = .returned (.tuple #[.agg #[.int .i64 3, .string ⟨#[]⟩, .int .i64 0, s.val, .bool true], .bool true]) ∧ RowQ w' rb r E 0 0 ∧ ReadsR strL w' (Fresh w w') s.val ts
    | .error (e1, a1) => e = .returned (.tuple #[.agg #[.int .i64 3, .string ⟨#[]⟩, .int .i64 0, s.val, .bool true], .bool false]) ∧ ∃ r, RowQ w' rb r E e1 a1
/-- where list stands: its two boxes, the texts, the row -/
structure TqAt (w : World) (rb : Nat) (E : Int) (wr : World) (l : List Lex) (acc : List ByteArray) (v : Value) : Prop where
  z0 : wr.heap[w.heap.size]? = some (.cells #[.int .i64 0, .string ⟨#[]⟩, .int .i64 0, .slice none 0 0, .bool false] 50)
  z1 : wr.heap[w.heap.size + 1]? = some (.cells #[.int .i64 3, .string ⟨#[]⟩, .int .i64 0, v, .bool true] 50)
  own : ownsG strL wr (w.heap.size + 2) 9 v acc
  row : RowQ wr rb l E 0 0
  grown : w.grownBy wr (some rb)
theorem TqAt.move {w : World} {rb : Nat} {E : Int} {wr w1 : World} {l : List Lex} {acc : List ByteArray} {v : Value} (h : TqAt w rb E wr l acc v) (hrb : rb < w.heap.size) (hg : wr.grownBy w1 (some rb)) :
    w1.heap[w.heap.size]? = some (.cells #[.int .i64 0, .string ⟨#[]⟩, .int .i64 0, .slice none 0 0, .bool false] 50) ∧ w1.heap[w.heap.size + 1]? = some (.cells #[.int .i64 3, .string ⟨#[]⟩, .int .i64 0, v, .bool true] 50) ∧ ownsG strL w1 (w.heap.size + 2) 9 v acc ∧ w.grownBy w1 (some rb) :=
  ⟨(hg.block _ (lt_of_block h.z0) (fun e => by injection e with e; omega)).trans h.z0, (hg.block _ (lt_of_block h.z1) (fun e => by injection e with e; omega)).trans h.z1, ownsG_grown h.own hg (by omega), grown_trans h.grown hg⟩
/-- a text more -/
theorem TqAt.put {w : World} {rb : Nat} {E : Int} {wr w1 w6 : World} {t : ByteArray} {l q : List Lex} {acc : List ByteArray} {v v' : Value} (h : TqAt w rb E wr l acc v) (hrb : rb < w.heap.size) (hg : wr.grownBy w1 (some rb)) (hr : RowQ w1 rb q E 0 0) {o2 : Obj}
    (h6 : ownsG strL w6 (w.heap.size + 2) 9 v' (acc ++ [t])) (hg6 : (w1.alloc o2).grownBy w6 v.ownBlock) : w6.heap[w.heap.size + 1]? = some (.cells #[.int .i64 3, .string ⟨#[]⟩, .int .i64 0, v, .bool true] 50) ∧ TqAt w rb E (w6.setCell ⟨w.heap.size + 1, 3, none⟩ v') q (acc ++ [t]) v' := by
  obtain ⟨z0, z1, ho, hgr⟩ := h.move hrb hg
  have l0 := lt_of_block z0
  have l1 := lt_of_block z1
  have hv : ∀ k, v.ownBlock = some k → w.heap.size + 2 ≤ k := fun k hk => (World.ownsRow.lt ho k hk).1
  have hne : ∀ k, k < w.heap.size + 2 → some k ≠ v.ownBlock := fun k hk e => by have := hv k e.symm; omega
  have hb := (Below.refl w1.heap.size w1).alloc (Nat.le_refl _) o2
  have hs := hb.size
  have y0 := (hg6.block _ (by omega) (hne _ (by omega))).trans ((hb.block _ l0).trans z0)
  have y1 := (hg6.block _ (by omega) (hne _ (by omega))).trans ((hb.block _ l1).trans z1)
  have hr6 : RowQ w6 rb q E 0 0 := (hr.below hb).own hg6 (fun k hk => by have := hv k hk; omega)
  have hst := grownBy_set w6 (w.heap.size + 1) 3 v'
  refine ⟨y1, (hst.block _ (lt_of_block y0) (fun e => by injection e with e; omega)).trans y0, block_set w6 (w.heap.size + 1) 3 v' y1, ownsG_grown h6 hst (by omega), hr6.grown hst (by omega), ?_⟩
  have g1 := grown_trans hgr (below_grown hb (some rb))
  refine grown_fresh (k := w.heap.size + 1) ⟨hg6.os.trans g1.os, hg6.tape.trans g1.tape, hg6.output.trans g1.output, Nat.le_trans g1.size hg6.size, fun i hi hr => (hg6.block i (Nat.lt_of_lt_of_le hi g1.size) (hne i (by omega))).trans (g1.block i hi hr)⟩ hst (by omega)
/-- a struct of five cells laid into a block -/
theorem grown5 (W : World) (b : Nat) (v0 v1 v2 v3 v4 : Value) : W.grownBy (((((W.setCell ⟨b, 0, none⟩ v0).setCell ⟨b, 1, none⟩ v1).setCell ⟨b, 2, none⟩ v2).setCell ⟨b, 3, none⟩ v3).setCell ⟨b, 4, none⟩ v4) (some b) :=
  grown_trans (grown_trans (grown_trans (grown_trans (grownBy_set W b 0 v0) (grownBy_set _ b 1 v1)) (grownBy_set _ b 2 v2)) (grownBy_set _ b 3 v3)) (grownBy_set _ b 4 v4)
theorem five_at {w1 : World} {b : Nat} {x0 x1 x2 x3 x4 : Value} {t : TypeId} (h : w1.heap[b]? = some (.cells #[x0, x1, x2, x3, x4] t (0, 0))) :
    (w1.cell? ⟨b, 0, none⟩ = some x0 ∧ w1.cell? ⟨b, 1, none⟩ = some x1 ∧ w1.cell? ⟨b, 2, none⟩ = some x2 ∧ w1.cell? ⟨b, 3, none⟩ = some x3 ∧ w1.cell? ⟨b, 4, none⟩ = some x4) ∧ (w1.frozen? ⟨b, 0, none⟩ = false ∧ w1.frozen? ⟨b, 1, none⟩ = false ∧ w1.frozen? ⟨b, 2, none⟩ = false ∧ w1.frozen? ⟨b, 3, none⟩ = false ∧ w1.frozen? ⟨b, 4, none⟩ = false) :=
  ⟨cell5 h, by simp [World.frozen?, h], by simp [World.frozen?, h], by simp [World.frozen?, h], by simp [World.frozen?, h], by simp [World.frozen?, h]⟩
/-- what stands behind the call that ends list -/
theorem TqAt.fin {w : World} {rb : Nat} {E : Int} {wr w1 : World} {l : List Lex} {acc : List ByteArray} {v : Value} (h : TqAt w rb E wr l acc v) (hrb : rb < w.heap.size) (hg : wr.grownBy w1 (some rb)) :
    w1.heap[w.heap.size]? = some (.cells #[.int .i64 0, .string ⟨#[]⟩, .int .i64 0, .slice none 0 0, .bool false] 50) ∧ w1.heap[w.heap.size + 1]? = some (.cells #[.int .i64 3, .string ⟨#[]⟩, .int .i64 0, v, .bool true] 50) ∧
      ∀ w9, w1.grownBy w9 (some w.heap.size) → w.grownBy w9 (some rb) ∧ ReadsR strL w9 (Fresh w w9) v acc ∧ ∀ q e a, RowQ w1 rb q E e a → RowQ w9 rb q E e a := by
  obtain ⟨z0, z1, ho, hgr⟩ := h.move hrb hg
  refine ⟨z0, z1, fun w9 hg9 => ⟨grown_fresh hgr hg9 (Nat.le_refl _), ?_, fun q e a hr => hr.grown hg9 hrb⟩⟩
  exact (ho.reads (X := fun g => w.heap.size + 2 ≤ g ∧ g < w1.heap.size) fun g hg => World.ownsRow.lt ho g hg).keeps (fun g hg hg2 => hg9.block g hg2 (fun e => by injection e with e; have := hg.1; omega)) hg9.size fun g hg => ⟨by have := hg.1; omega, Nat.lt_of_lt_of_le hg.2 hg9.size⟩
theorem tq_begin {w : World} {rb : Nat} {x0 : Lex} {l : List Lex} {E : Int} (h : RowQ w rb (x0 :: l) E 0 0) :
    ∃ K : Nat, ((w.alloc (.cells #[.int .i64 0, .string ⟨#[]⟩, .int .i64 0, .slice none 0 0, .bool false] 50)).alloc (.cells #[.int .i64 3, .string ⟨#[]⟩, .int .i64 0, .slice none 0 0, .bool true] 50)).cell? ⟨rb, 1, none⟩ = some (.int .i64 (K : Int)) ∧
      ((w.alloc (.cells #[.int .i64 0, .string ⟨#[]⟩, .int .i64 0, .slice none 0 0, .bool false] 50)).alloc (.cells #[.int .i64 3, .string ⟨#[]⟩, .int .i64 0, .slice none 0 0, .bool true] 50)).frozen? ⟨rb, 1, none⟩ = false ∧ IntKind.i64.wrap ((K : Int) + 1) = (K : Int) + 1 ∧
      TqAt w rb E (((w.alloc (.cells #[.int .i64 0, .string ⟨#[]⟩, .int .i64 0, .slice none 0 0, .bool false] 50)).alloc (.cells #[.int .i64 3, .string ⟨#[]⟩, .int .i64 0, .slice none 0 0, .bool true] 50)).setCell ⟨rb, 1, none⟩ (.int .i64 ((K : Int) + 1))) l [] (.slice none 0 0) := by
  have hrb := h.lt
  have hbA := (Below.refl w.heap.size w).alloc (Nat.le_refl _) (.cells #[.int .i64 0, .string ⟨#[]⟩, .int .i64 0, .slice none 0 0, .bool false] 50)
  have a0 := heap_alloc_new w (.cells #[.int .i64 0, .string ⟨#[]⟩, .int .i64 0, .slice none 0 0, .bool false] 50)
  have hsz : (w.alloc (.cells #[.int .i64 0, .string ⟨#[]⟩, .int .i64 0, .slice none 0 0, .bool false] 50)).heap.size = w.heap.size + 1 := by simp
  generalize w.alloc (.cells #[.int .i64 0, .string ⟨#[]⟩, .int .i64 0, .slice none 0 0, .bool false] 50) = W1 at *
  have hbB := (Below.refl W1.heap.size W1).alloc (Nat.le_refl _) (.cells #[.int .i64 3, .string ⟨#[]⟩, .int .i64 0, .slice none 0 0, .bool true] 50)
  have a1 := heap_alloc_new W1 (.cells #[.int .i64 3, .string ⟨#[]⟩, .int .i64 0, .slice none 0 0, .bool true] 50)
  generalize W1.alloc (.cells #[.int .i64 3, .string ⟨#[]⟩, .int .i64 0, .slice none 0 0, .bool true] 50) = W2 at *
  have hb0 := hbA.trans (hbB.mono hbA.size)
  rw [hsz] at a1
  replace a0 := (hbB.block _ (by omega)).trans a0
  obtain ⟨K, hK, c1, f1, hN, hwr⟩ := (h.below hb0).step
  have hgs := grownBy_set W2 rb 1 (.int .i64 ((K : Int) + 1))
  exact ⟨K, c1, f1, hwr, (hgs.block _ (lt_of_block a0) (fun e => by injection e with e; omega)).trans a0, (hgs.block _ (lt_of_block a1) (fun e => by injection e with e; omega)).trans a1, ownsG.nil _ _ _ _, hN, grown_trans (below_grown hb0 _) hgs⟩
set_option maxHeartbeats 8000000 in
set_option maxRecDepth 100000 in
theorem listQ_any (rb : Nat) (x0 : Lex) (l : List Lex) (E : Int) (m : Nat) (res : Res (List ByteArray)) (w : World) (h : RowQ w rb (x0 :: l) E 0 0) (hl : l.length ≤ 1000000) (hm : textsR E m l = some res) : Calls Tryz.prog 98 #[.pointer (some ⟨rb, 0, none⟩)] w (ListQ w rb E res) := by
  have hrun : TextsRun E m l [] res := ⟨m, res, Nat.le_refl _, hm, by cases res <;> rfl⟩
  have HRB := Lib.hid h.lt
  obtain ⟨K, c1, f1, hwr, hT0⟩ := tq_begin h
  have HT0 := Lib.hid hT0
  clear h hm hT0
  go_enter Tryz.func98, Tryz.ntmps98
  go_wp2
  go_loopw [5] (fun _ wr => ∃ l' acc v, TqAt w rb E wr l' acc v ∧ l'.length + acc.length ≤ 1000000 ∧ TextsRun E m l' acc res) (fun _ wr => mq wr rb)
  case atStart => exact ⟨l, [], .slice none 0 0, HT0.out, by simpa using hl, hrun⟩
  case round =>
    have hrb := HRB.out
    clear HT0 hrun c1 f1 hwr
    obtain ⟨l', acc, v, hT, hlen, hru⟩ := hrel
    have hmeas := mq_eq hT.row
    have HW := wordR_any rb l' E 0 0 wr hT.row
    by_cases hk : (frontL E 0 l').k = 4
    · cases l' with
      | nil => exact absurd (show (0 : Int) = 4 from hk) (by decide)
      | cons x q =>
        have hF : frontL E 0 (x :: q) = x := rfl
        rw [hF] at HW hk
        unfold lexV at HW
        have HW := Lib.hid HW
        have k4 : (x.k != 4) = false := by rw [hk]; rfl
        rw [List.length_cons] at hlen
        have hru4 := fun hm => tx_more hru hk hm
        have hruE := fun hm => tx_end hru hk hm
        clear hF hk hru
        go_wp2_with fail
        refine HW.out.mono ?_
        rintro e w1 ⟨rfl, hb1⟩
        have hb := hb1.trans (((Below.refl w1.heap.size w1).alloc (Nat.le_refl _) (.cells #[.int .i64 x.k, .string x.t, .int .i64 x.n, .int .i64 x.a] 41)).mono hb1.size)
        have hn := heap_alloc_new w1 (.cells #[.int .i64 x.k, .string x.t, .int .i64 x.n, .int .i64 x.a] 41)
        obtain ⟨K, hK, c1, f1, hN, hwr⟩ := (hT.row.below hb).step
        have hgs := grownBy_set (w1.alloc (.cells #[.int .i64 x.k, .string x.t, .int .i64 x.n, .int .i64 x.a] 41)) rb 1 (.int .i64 ((K : Int) + 1))
        have y1 := (cell4 ((hgs.block w1.heap.size (by simp) (fun e => by injection e with e; have := hb1.size; have := lt_of_block hT.z0; omega)).trans hn)).2.1
        have hg1 := grown_trans (below_grown hb (some rb)) hgs
        obtain ⟨z0, z1, ho, hgr⟩ := hT.move hrb hg1
        have c30 := (cell5 z1).2.2.2.1
        have HP := Lib.hid (fun (o2 : Obj) w6 v' h6 hg6 => hT.put (t := x.t) (w6 := w6) (v' := v') (o2 := o2) hrb hg1 hN h6 hg6)
        clear HW hn hgs hN hb hg1 hT hgr z0
        by_cases h44 : isM 44 q = true
        · have hnx := Lib.hid (hru4 h44)
          clear hru4 hruE
          go_wp2_with (at_builtin; go_loud (refine append_g _ rfl (.tmp 31) (.tmp 34) slS rfl (w.heap.size + 2) _ acc rfl (ownsG.alloc ho _) ⟨_, 0, none⟩ [x.t] 1 1 rfl rfl (cells_at _ _ (by simp) _ _) (by omega) (by omega) (by have := lt_of_block z1; simp at this ⊢; omega) ?_; intro v6 w6 hown6 hg6; obtain ⟨p6, n6, c6, rfl⟩ := own_slice hown6; obtain ⟨y1, hT6⟩ := HP.out _ w6 _ hown6 hg6; have c3 := (cell5 y1).2.2.2.1; have f3 := frozen_of_row w6 (w.heap.size + 1) 3 _ _ y1; clear hg6 hown6))
          have HI := isR_any rb q E 0 0 ⟨#[44]⟩ 44 rfl _ hT6.row
          rw [h44] at HI
          refine HI.mono ?_
          rintro e w7 ⟨rfl, hb7⟩
          have hg7 := below_grown hb7 (some rb)
          cases q with
          | nil => cases h44
          | cons y q' =>
            obtain ⟨K7, hK7, c17, f17, hN7, hwr7⟩ := (hT6.row.below hb7).step
            have hN7 := Lib.hid hN7
            clear HI
            go_wp2
            go_roundw
            case rel =>
              obtain ⟨k0, k1, ko, kg⟩ := hT6.move hrb (grown_trans hg7 (grownBy_set _ rb 1 (.int .i64 ((K7 : Int) + 1))))
              exact ⟨q', acc ++ [x.t], _, ⟨k0, k1, ko, hN7.out, kg⟩, by rw [List.length_append, List.length_singleton]; rw [List.length_cons] at hlen; omega, hnx.out⟩
            case measure =>
              rw [hmeas, mq_eq hN7.out, List.length_cons, List.length_cons]
              omega
        · obtain ⟨he1, he2⟩ := hruE h44
          clear hru4 hruE
          go_wp2_with (at_builtin; go_loud (refine append_g _ rfl (.tmp 31) (.tmp 34) slS rfl (w.heap.size + 2) _ acc rfl (ownsG.alloc ho _) ⟨_, 0, none⟩ [x.t] 1 1 rfl rfl (cells_at _ _ (by simp) _ _) (by omega) (by omega) (by have := lt_of_block z1; simp at this ⊢; omega) ?_; intro v6 w6 hown6 hg6; obtain ⟨p6, n6, c6, rfl⟩ := own_slice hown6; obtain ⟨y1, hT6⟩ := HP.out _ w6 _ hown6 hg6; have c3 := (cell5 y1).2.2.2.1; have f3 := frozen_of_row w6 (w.heap.size + 1) 3 _ _ y1; clear hg6 hown6))
          have HI := isR_any rb q E 0 0 ⟨#[44]⟩ 44 rfl _ hT6.row
          rw [show isM 44 q = false by simpa using h44] at HI
          refine HI.mono ?_
          rintro e w7 ⟨rfl, hb7⟩
          have hR7 := hT6.row.below hb7
          have HFin := Lib.hid (fun w8 hg8 => hT6.fin (w1 := w8) hrb (grown_trans (below_grown hb7 (some rb)) hg8))
          obtain ⟨u0, u1, -⟩ := HFin.out w7 (below_grown (Below.refl _ _) _)
          obtain ⟨t0, t1, t2, t3, t4⟩ := cell5 u1
          clear HI hT6 u0 u1 y1 c3 f3 c1 f1 c30
          by_cases h93 : isM 93 q = true
          · obtain rfl := he1 h93
            cases q with
            | nil => cases h93
            | cons y q' =>
              have HM := Lib.hid (fun W (hb : Below w7.heap.size w7 W) => markR_yes rb y q' E 0 0 ⟨#[93]⟩ 93 rfl W (hR7.below hb) h93)
              go_wp2_with fail
              go_region_law (first
                | (go_simp; go_at_call 55; (with_reducible refine (HM.out _ (Below.refl _ _).drew).mono ?_); rintro e w8 ⟨rfl, h8, hg8⟩; obtain ⟨u0, u1, hfin⟩ := HFin.out w8 (grown_trans (below_grown (Below.refl _ _).drew _) hg8); obtain ⟨⟨t0, t1, t2, t3, t4⟩, -⟩ := five_at u1; obtain ⟨⟨r0, r1, r2, r3, r4⟩, g0, g1, g2, g3, g4⟩ := five_at u0; have hfin := Lib.hid hfin; clear u0 u1)
                | fail)
              all_goals
                go_wp2_with fail
                (try simp only [Exit.inBlock, Exit.then])
                refine bodyPost_ret (v := (.tuple #[.agg #[.int .i64 3, .string ⟨#[]⟩, .int .i64 0, (.slice p6 n6 c6), .bool true], .bool true])) (by simp [lexV, zeroL, results, Tryz.results98, go_sem, *]) rfl ?_
                refine ⟨(hfin.out _ ?g).1, ⟨p6, n6, c6⟩, rfl, (hfin.out _ ?g).2.2 _ _ _ h8, (hfin.out _ ?g).2.1⟩
                case g => first | exact grown5 _ _ _ _ _ _ _ | exact grown_trans (grown5 _ _ _ _ _ _ _) (below_grown (Below.refl _ _).drew _)
          · obtain rfl := he2 h93
            have HM := Lib.hid (fun W (hb : Below w7.heap.size w7 W) => markR_no rb q E 0 0 ⟨#[93]⟩ 93 rfl W (hR7.below hb) h93)
            go_wp2_with fail
            go_region_law (first
              | (go_simp; go_at_call 55; (with_reducible refine (HM.out _ (Below.refl _ _).drew).mono ?_); rintro e w8 ⟨rfl, h8, hg8⟩; obtain ⟨u0, u1, hfin⟩ := HFin.out w8 (grown_trans (below_grown (Below.refl _ _).drew _) hg8); obtain ⟨⟨t0, t1, t2, t3, t4⟩, -⟩ := five_at u1; obtain ⟨⟨r0, r1, r2, r3, r4⟩, g0, g1, g2, g3, g4⟩ := five_at u0; have hfin := Lib.hid hfin; clear u0 u1)
              | fail)
            all_goals
              go_wp2_with fail
              (try simp only [Exit.inBlock, Exit.then])
              refine bodyPost_ret (v := (.tuple #[.agg #[.int .i64 3, .string ⟨#[]⟩, .int .i64 0, (.slice p6 n6 c6), .bool true], .bool false])) (by simp [lexV, zeroL, results, Tryz.results98, go_sem, *]) rfl ?_
              refine ⟨(hfin.out _ ?g).1, ⟨p6, n6, c6⟩, rfl, _, (hfin.out _ ?g).2.2 _ _ _ h8⟩
              case g => first | exact grown5 _ _ _ _ _ _ _ | exact grown_trans (grown5 _ _ _ _ _ _ _) (below_grown (Below.refl _ _).drew _)
    · obtain rfl := tx_bad hru hk
      generalize frontL E 0 l' = x at *
      unfold lexV at HW
      have HW := Lib.hid HW
      have k4 : (x.k != 4) = true := bne_iff_ne.2 hk
      obtain ⟨pv, nv, cv, rfl⟩ := own_slice hT.own
      clear hk hru hmeas
      go_wp2_with fail
      refine HW.out.mono ?_
      rintro e w1 ⟨rfl, hb1⟩
      have hb := hb1.trans (((Below.refl w1.heap.size w1).alloc (Nat.le_refl _) (.cells #[.int .i64 x.k, .string x.t, .int .i64 x.n, .int .i64 x.a] 41)).mono hb1.size)
      have hR7 := hT.row.below hb
      have HFin := Lib.hid (fun w8 hg8 => hT.fin (w1 := w8) hrb (grown_trans (below_grown hb (some rb)) hg8))
      obtain ⟨u0, u1, -⟩ := HFin.out _ (below_grown (Below.refl _ _) _)
      obtain ⟨t0, t1, t2, t3, t4⟩ := cell5 u1
      have HM := Lib.hid (fun W hb => wrongR_any rb l' E 0 0 2 W (hR7.below hb))
      clear HW u0 u1 hT hb
      go_wp2_with fail
      go_region_law (first
        | (go_simp; go_at_call 97; (with_reducible refine (HM.out _ (Below.refl _ _).drew).mono ?_); rintro e w8 ⟨rfl, h8, hg8⟩; obtain ⟨u0, u1, hfin⟩ := HFin.out w8 (grown_trans (below_grown (Below.refl _ _).drew _) hg8); obtain ⟨⟨t0, t1, t2, t3, t4⟩, -⟩ := five_at u1; obtain ⟨⟨r0, r1, r2, r3, r4⟩, g0, g1, g2, g3, g4⟩ := five_at u0; have hfin := Lib.hid hfin; clear u0 u1)
        | fail)
      all_goals
        go_wp2_with fail
        (try simp only [Exit.inBlock, Exit.then])
        refine bodyPost_ret (v := (.tuple #[.agg #[.int .i64 3, .string ⟨#[]⟩, .int .i64 0, (.slice pv nv cv), .bool true], .bool false])) (by simp [lexV, zeroL, results, Tryz.results98, go_sem, *]) rfl ?_
        refine ⟨(hfin.out _ ?g).1, ⟨pv, nv, cv⟩, rfl, _, (hfin.out _ ?g).2.2 _ _ _ h8⟩
        case g => first | exact grown5 _ _ _ _ _ _ _ | exact grown_trans (grown5 _ _ _ _ _ _ _) (below_grown (Below.refl _ _).drew _)
end Go.Proofs.YtgimgkjggaijoaaGreatDoor
namespace Go.Proofs.YtgimgkjggaijoaaGreatDoor
open Go.RowKit Pk Lx Sv

/-- what args leaves -/
def ArgsQ (w : World) (rb : Nat) (E : Int) (res : Res (List ArgT)) (e : Ending) (w' : World) : Prop :=
  w.grownBy w' (some rb) ∧ match res with
    | .ok (ts, r) => ∃ s : SlV, e = .returned (.tuple #[s.val, .bool true]) ∧ RowQ w' rb r E 0 0 ∧ ArgsAt w' (Fresh w w') s.val ts
    | .error (e1, a1) => e = .returned (.tuple #[.slice none 0 0, .bool false]) ∧ ∃ r, RowQ w' rb r E e1 a1
def ArQx (w : World) (rb : Nat) (E : Int) (m : Nat) (res : Res (List ArgT)) (v : Value) (wr : World) : Prop :=
  ∃ (l : List Lex) (R : List RArg) (acc : List ArgT), ArAt w rb wr v R acc ∧ RowQ wr rb l E 0 0 ∧ l.length + R.length ≤ 1000000 ∧ ArgsRun E m l acc res
theorem argOf_no (x : Lex) (h2 : ¬ x.k = 2) (h3 : ¬ x.k = 3) (h4 : ¬ x.k = 4) : argOf x = none := by unfold argOf; rw [if_neg h2, if_neg h3, if_neg h4]
/-- what stands behind the store of an argument, the step of the index and the making of the row that is appended -/
theorem ArAt.kind {w wr w2 w3 : World} {rb A : Nat} {v : Value} {R : List RArg} {acc : List ArgT} {x : Lex} {q : List Lex} {E : Int} {r : RArg} {b : ArgT} (hA : ArAt w rb wr v R acc) (hrb : rb < w.heap.size) (hR2 : RowQ w2 rb (x :: q) E 0 0) (hg2 : wr.grownBy w2 (some rb)) (hAl : wr.heap.size ≤ A)
    (hw3 : w3.heap[A]? = some (.cells #[.int .i64 r.k, .string r.tag, .int .i64 r.n, r.tx.val, .bool r.ls] 50)) (hg3 : w2.grownBy w3 (some A))
    (hat : ∀ W, w3.grownBy W (some rb) → ArgAt W (Fresh wr W) r b) :
    ∃ K, StepQ w3 rb q E 0 0 K ∧ ∀ o, let W4 := w3.setCell ⟨rb, 1, none⟩ (.int .i64 ((K : Int) + 1)); let W5 := W4.alloc o;
      W4.heap[A]? = some (.cells #[.int .i64 r.k, .string r.tag, .int .i64 r.n, r.tx.val, .bool r.ls] 50) ∧ ownsG argL W5 w.heap.size 50 v R ∧ w.heap.size ≤ W5.heap.size ∧
      ∀ v6 w6, ownsG argL w6 w.heap.size 50 v6 (R ++ [r]) → W5.grownBy w6 v.ownBlock → NewOwn W5 v v6 → ArAt w rb w6 v6 (R ++ [r]) (acc ++ [b]) ∧ RowQ w6 rb q E 0 0 := by
  have hsz := hA.grown.size
  have hR3 := hR2.grown hg3 (by omega)
  obtain ⟨K, hS⟩ := hR3.step
  refine ⟨K, hS, fun o => ?_⟩
  intro W4 W5
  have hg4 : w3.grownBy W4 (some rb) := grownBy_set w3 rb 1 _
  have hb5 := (Below.refl W4.heap.size W4).alloc (Nat.le_refl _) o
  have hg5 : w3.grownBy W5 (some rb) := grown_trans hg4 (below_grown hb5 _)
  have hgw : wr.grownBy W5 (some rb) := grown_trans (grown_fresh hg2 hg3 hAl) hg5
  have hov := hA.past hrb
  refine ⟨(hg4.block _ (lt_of_block hw3) (fun e => by injection e with e; omega)).trans hw3, (hA.move hrb hgw).own, Nat.le_trans hsz hgw.size, fun v6 w6 h6 hg6 hn6 => ⟨hA.put hrb hgw (hat W5 hg5) h6 hg6 hn6, (hS.nx.below hb5).own hg6 hov⟩⟩
set_option maxHeartbeats 8000000 in
set_option maxRecDepth 100000 in
theorem argsQ_any (rb : Nat) (l : List Lex) (E : Int) (m : Nat) (res : Res (List ArgT)) (w : World) (h : RowQ w rb l E 0 0) (hl : l.length ≤ 1000000) (hm : argsR E m l = some res) : Calls Tryz.prog 52 #[.pointer (some ⟨rb, 0, none⟩)] w (ArgsQ w rb E res) := by
  have hrb := h.lt
  have h0 : ArQx w rb E m res (.slice none 0 0) w := ⟨l, [], [], ⟨ownsG.nil _ _ _ _, Elems.nil _ _ _, below_grown (Below.refl _ _) _⟩, h, by simpa using hl, m, res, Nat.le_refl _, hm, by cases res <;> rfl⟩
  clear h hm
  go_enter Tryz.func52, Tryz.ntmps52
  go_wp2
  go_loopw [4] (fun v wr => ArQx w rb E m res v wr) (fun _ wr => mq wr rb)
  case atStart => exact h0
  case round =>
    clear h0
    obtain ⟨l', R, acc, hA, hR, hlen, hru⟩ := hrel
    have hmq := mq_eq hR
    have hov := hA.past hrb
    have HW := wordR_any rb l' E 0 0 wr hR
    by_cases h91 : isM 91 l' = true
    · cases l' with
      | nil => cases h91
      | cons x q =>
        have hF : frontL E 0 (x :: q) = x := rfl
        rw [hF] at HW
        unfold lexV at HW
        have HW := Lib.hid HW
        rw [List.length_cons] at hlen hmq
        obtain ⟨t, ht, hok, herr⟩ := ar_list hru h91
        clear hru hF
        go_wp2_with fail
        refine HW.out.mono ?_
        rintro e w1 ⟨rfl, hb1⟩
        have hbX := (hb1.alloc hb1.size (.cells #[.int .i64 x.k, .string x.t, .int .i64 x.n, .int .i64 x.a] 41))
        have hbA := hbX.alloc hbX.size (.cells #[.int .i64 0, .string ⟨#[]⟩, .int .i64 0, .slice none 0 0, .bool false] 50)
        go_wp2_with fail
        have HI := isR_any rb (x :: q) E 0 0 ⟨#[91]⟩ 91 rfl _ (hR.below hbA)
        rw [h91] at HI
        refine HI.mono ?_
        rintro e w2 ⟨rfl, hb2⟩
        have hb12 := hbA.trans (hb2.mono hbA.size)
        clear HI
        go_wp2_with fail
        refine (listQ_any rb x q E m t w2 (hR.below hb12) (by omega) ht).mono ?_
        rintro e w3 ⟨hg3, ⟨p, n, c⟩, hpost⟩
        have hg13 := grown_trans (below_grown hb12 (some rb)) hg3
        have hal := (Below.refl w3.heap.size w3).alloc (Nat.le_refl _) (.cells #[.int .i64 3, .string ⟨#[]⟩, .int .i64 0, .slice p n c, .bool true] 50)
        have hal2 := hal.alloc hal.size (.cells #[.int .i64 3, .string ⟨#[]⟩, .int .i64 0, .slice p n c, .bool true] 50)
        cases t with
        | error e =>
          obtain ⟨e1, a1⟩ := e
          obtain ⟨he, r, hr3⟩ := hpost
          dsimp only [SlV.val] at he
          subst he
          have hres := herr _ rfl
          subst hres
          go_wp2
          go_ret2
          exact ⟨grown_trans hA.grown (grown_trans hg13 (below_grown hal _)), rfl, r, hr3.below hal⟩
        | ok tp =>
          obtain ⟨ts, r⟩ := tp
          obtain ⟨he, hr3, hus⟩ := hpost
          dsimp only [SlV.val] at he hus
          subst he
          have hrl := textsR_len ht
          simp only at hrl
          have hW := grown_trans hg13 (below_grown hal2 (some rb))
          have hat : ArgAt _ (Fresh wr _) ⟨3, ⟨#[]⟩, 0, ⟨p, n, c⟩, true⟩ ⟨3, ⟨#[]⟩, 0, ts, true⟩ :=
            ⟨rfl, rfl, rfl, rfl, hus.keeps (fun g _ hg => hal2.block g hg) hal2.size fun g hg => ⟨Nat.le_trans hb12.size hg.1, Nat.lt_of_lt_of_le hg.2 hal2.size⟩⟩
          have HP := Lib.hid (fun v6 w6 h6 hg6 hn6 => hA.put (v6 := v6) (w6 := w6) hrb hW hat h6 hg6 hn6)
          have hO := (hA.move hrb hW).own
          clear hat
          go_wp2_with (at_builtin; go_loud (refine append_n _ rfl (.tmp 23) (.tmp 25) slA rfl w.heap.size _ R rfl hO ⟨_, 0, none⟩ [⟨3, ⟨#[]⟩, 0, ⟨p, n, c⟩, true⟩] 1 1 rfl rfl (cells_at _ _ (by simp) _ _) (by omega) (by omega) (by have := hA.grown.size; have := hW.size; omega) ?_; intro v6 w6 h6 hg6 hn6))
          have hA6 := HP.out v6 w6 h6 hg6 hn6
          have hr6 := (hr3.below hal2).own hg6 hov
          go_roundw
          case rel => exact ⟨r, _, _, hA6, hr6, by rw [List.length_append, List.length_singleton]; omega, hok _ _ rfl⟩
          case measure => rw [hmq, mq_eq hr6]; omega
    · have h91' : isM 91 l' = false := by simpa using h91
      cases l' with
      | nil =>
        obtain rfl := ar_stop hru h91 rfl
        have hF : frontL E 0 [] = ⟨0, ⟨#[]⟩, 0, E⟩ := rfl
        rw [hF] at HW
        obtain ⟨x, hx⟩ : ∃ x : Lex, x = ⟨0, ⟨#[]⟩, 0, E⟩ := ⟨_, rfl⟩
        rw [← hx] at HW
        have n2 : (x.k == 2) = false := by rw [hx]; rfl
        have n3 : (x.k == 3) = false := by rw [hx]; rfl
        have n4 : (x.k == 4) = false := by rw [hx]; rfl
        unfold lexV at HW
        have HW := Lib.hid HW
        clear hx hF hru
        go_wp2_with fail
        refine HW.out.mono ?_
        rintro e w1 ⟨rfl, hb1⟩
        have hbX := (hb1.alloc hb1.size (.cells #[.int .i64 x.k, .string x.t, .int .i64 x.n, .int .i64 x.a] 41))
        have hbA := hbX.alloc hbX.size (.cells #[.int .i64 0, .string ⟨#[]⟩, .int .i64 0, .slice none 0 0, .bool false] 50)
        go_wp2_with fail
        have HI := isR_any rb [] E 0 0 ⟨#[91]⟩ 91 rfl _ (hR.below hbA)
        rw [h91'] at HI
        refine HI.mono ?_
        rintro e w2 ⟨rfl, hb2⟩
        have hb12 := hbA.trans (hb2.mono hbA.size)
        clear HI
        have zX : w2.heap[w1.heap.size]? = some (.cells #[.int .i64 x.k, .string x.t, .int .i64 x.n, .int .i64 x.a] 41) := (hb2.block _ (by simp; omega)).trans ((heap_alloc_old _ _ (by simp)).trans (heap_alloc_new w1 _))
        have zA : w2.heap[w1.heap.size + 1]? = some (.cells #[.int .i64 0, .string ⟨#[]⟩, .int .i64 0, .slice none 0 0, .bool false] 50) := (hb2.block _ (by simp)).trans (by have := heap_alloc_new (w1.alloc (.cells #[.int .i64 x.k, .string x.t, .int .i64 x.n, .int .i64 x.a] 41)) (.cells #[.int .i64 0, .string ⟨#[]⟩, .int .i64 0, .slice none 0 0, .bool false] 50); simpa using this)
        obtain ⟨x0, x1, x2, x3⟩ := cell4 zX
        have hs1 := hb1.size
        have hR2 := hR.below hb12
        have hg2 := below_grown hb12 (some rb)
        obtain ⟨pv, nv, cv, rfl⟩ := own_slice hA.own
        clear zX zA
        go_wp2_with fail
        go_ret2
        have hA3 := hA.move hrb hg2
        exact ⟨hA3.grown, ⟨pv, nv, cv⟩, rfl, hR2, hA3.done⟩
      | cons x q =>
        have hF : frontL E 0 (x :: q) = x := rfl
        rw [hF] at HW
        unfold lexV at HW
        have HW := Lib.hid HW
        rw [List.length_cons] at hlen hmq
        clear hF
        by_cases t2 : x.k = 2
        · have hnx := ar_one hru h91 (b := ⟨1, x.t, 0, [], false⟩) (by unfold argOf; rw [if_pos t2])
          have n2 : (x.k == 2) = true := beq_iff_eq.2 t2
          clear t2 hru
          go_wp2_with fail
          refine HW.out.mono ?_
          rintro e w1 ⟨rfl, hb1⟩
          have hbX := (hb1.alloc hb1.size (.cells #[.int .i64 x.k, .string x.t, .int .i64 x.n, .int .i64 x.a] 41))
          have hbA := hbX.alloc hbX.size (.cells #[.int .i64 0, .string ⟨#[]⟩, .int .i64 0, .slice none 0 0, .bool false] 50)
          go_wp2_with fail
          have HI := isR_any rb (x :: q) E 0 0 ⟨#[91]⟩ 91 rfl _ (hR.below hbA)
          rw [h91'] at HI
          refine HI.mono ?_
          rintro e w2 ⟨rfl, hb2⟩
          have hb12 := hbA.trans (hb2.mono hbA.size)
          clear HI
          have zX : w2.heap[w1.heap.size]? = some (.cells #[.int .i64 x.k, .string x.t, .int .i64 x.n, .int .i64 x.a] 41) := (hb2.block _ (by simp; omega)).trans ((heap_alloc_old _ _ (by simp)).trans (heap_alloc_new w1 _))
          have zA : w2.heap[w1.heap.size + 1]? = some (.cells #[.int .i64 0, .string ⟨#[]⟩, .int .i64 0, .slice none 0 0, .bool false] 50) := (hb2.block _ (by simp)).trans (by have := heap_alloc_new (w1.alloc (.cells #[.int .i64 x.k, .string x.t, .int .i64 x.n, .int .i64 x.a] 41)) (.cells #[.int .i64 0, .string ⟨#[]⟩, .int .i64 0, .slice none 0 0, .bool false] 50); simpa using this)
          obtain ⟨x0, x1, x2, x3⟩ := cell4 zX
          have hs1 := hb1.size
          have hR2 := hR.below hb12
          have hg2 := below_grown hb12 (some rb)
          clear zX
          go_wp2_with (first
            | (refine store_agg rfl 50 (.tmp 6) (.tmp 32) rfl (w1.heap.size + 1) #[.int .i64 1, .string x.t, .int .i64 0, .slice none 0 0, .bool false] rfl rfl _ _ zA (by kernel_rfl) rfl rfl ?_; intro w3 hw3 hg3; (obtain ⟨K, ⟨hK, c1, f1, hN, hwr⟩, hk⟩ := hA.kind (r := ⟨1, x.t, 0, ⟨none, 0, 0⟩, false⟩) (b := ⟨1, x.t, 0, [], false⟩) hrb hR2 hg2 (by omega) hw3 hg3 (fun W _ => ⟨rfl, rfl, rfl, rfl, ReadsR.nil _ _ _⟩)); (obtain ⟨hz4, hO, hsO, -⟩ := hk (.cells #[.int .i64 1, .string x.t, .int .i64 0, .slice none 0 0, .bool false] 50)); dsimp only [SlV.val] at hz4; (obtain ⟨y0, y1, y2, y3, y4⟩ := cell5 hz4); (have hk := Lib.hid hk); clear hz4 hw3 hN)
            | (at_builtin; go_loud (refine append_n _ rfl (.tmp 54) (.tmp 56) slA rfl w.heap.size _ R rfl hO ⟨_, 0, none⟩ [⟨1, x.t, 0, ⟨none, 0, 0⟩, false⟩] 1 1 rfl rfl (cells_at _ _ (by simp) _ _) (by omega) (by omega) (by simpa using hsO) ?_; intro v6 w6 h6 hg6 hn6)))
          obtain ⟨-, -, -, hfin⟩ := hk.out (.cells #[.int .i64 1, .string x.t, .int .i64 0, .slice none 0 0, .bool false] 50)
          obtain ⟨hA6, hr6⟩ := hfin v6 w6 h6 hg6 hn6
          go_roundw
          case rel => exact ⟨q, _, _, hA6, hr6, by rw [List.length_append, List.length_singleton]; omega, hnx⟩
          case measure => rw [hmq, mq_eq hr6]; omega
        · have n2 : (x.k == 2) = false := beq_eq_false_iff_ne.2 t2
          by_cases t3 : x.k = 3
          · have hnx := ar_one hru h91 (b := ⟨2, ⟨#[]⟩, x.n, [], false⟩) (by unfold argOf; rw [if_neg t2, if_pos t3])
            have n3 : (x.k == 3) = true := beq_iff_eq.2 t3
            clear t2 t3 hru
            go_wp2_with fail
            refine HW.out.mono ?_
            rintro e w1 ⟨rfl, hb1⟩
            have hbX := (hb1.alloc hb1.size (.cells #[.int .i64 x.k, .string x.t, .int .i64 x.n, .int .i64 x.a] 41))
            have hbA := hbX.alloc hbX.size (.cells #[.int .i64 0, .string ⟨#[]⟩, .int .i64 0, .slice none 0 0, .bool false] 50)
            go_wp2_with fail
            have HI := isR_any rb (x :: q) E 0 0 ⟨#[91]⟩ 91 rfl _ (hR.below hbA)
            rw [h91'] at HI
            refine HI.mono ?_
            rintro e w2 ⟨rfl, hb2⟩
            have hb12 := hbA.trans (hb2.mono hbA.size)
            clear HI
            have zX : w2.heap[w1.heap.size]? = some (.cells #[.int .i64 x.k, .string x.t, .int .i64 x.n, .int .i64 x.a] 41) := (hb2.block _ (by simp; omega)).trans ((heap_alloc_old _ _ (by simp)).trans (heap_alloc_new w1 _))
            have zA : w2.heap[w1.heap.size + 1]? = some (.cells #[.int .i64 0, .string ⟨#[]⟩, .int .i64 0, .slice none 0 0, .bool false] 50) := (hb2.block _ (by simp)).trans (by have := heap_alloc_new (w1.alloc (.cells #[.int .i64 x.k, .string x.t, .int .i64 x.n, .int .i64 x.a] 41)) (.cells #[.int .i64 0, .string ⟨#[]⟩, .int .i64 0, .slice none 0 0, .bool false] 50); simpa using this)
            obtain ⟨x0, x1, x2, x3⟩ := cell4 zX
            have hs1 := hb1.size
            have hR2 := hR.below hb12
            have hg2 := below_grown hb12 (some rb)
            clear zX
            go_wp2_with (first
              | (refine store_agg rfl 50 (.tmp 6) (.tmp 38) rfl (w1.heap.size + 1) #[.int .i64 2, .string ⟨#[]⟩, .int .i64 x.n, .slice none 0 0, .bool false] rfl rfl _ _ zA (by kernel_rfl) rfl rfl ?_; intro w3 hw3 hg3; (obtain ⟨K, ⟨hK, c1, f1, hN, hwr⟩, hk⟩ := hA.kind (r := ⟨2, ⟨#[]⟩, x.n, ⟨none, 0, 0⟩, false⟩) (b := ⟨2, ⟨#[]⟩, x.n, [], false⟩) hrb hR2 hg2 (by omega) hw3 hg3 (fun W _ => ⟨rfl, rfl, rfl, rfl, ReadsR.nil _ _ _⟩)); (obtain ⟨hz4, hO, hsO, -⟩ := hk (.cells #[.int .i64 2, .string ⟨#[]⟩, .int .i64 x.n, .slice none 0 0, .bool false] 50)); dsimp only [SlV.val] at hz4; (obtain ⟨y0, y1, y2, y3, y4⟩ := cell5 hz4); (have hk := Lib.hid hk); clear hz4 hw3 hN)
              | (at_builtin; go_loud (refine append_n _ rfl (.tmp 54) (.tmp 56) slA rfl w.heap.size _ R rfl hO ⟨_, 0, none⟩ [⟨2, ⟨#[]⟩, x.n, ⟨none, 0, 0⟩, false⟩] 1 1 rfl rfl (cells_at _ _ (by simp) _ _) (by omega) (by omega) (by simpa using hsO) ?_; intro v6 w6 h6 hg6 hn6)))
            obtain ⟨-, -, -, hfin⟩ := hk.out (.cells #[.int .i64 2, .string ⟨#[]⟩, .int .i64 x.n, .slice none 0 0, .bool false] 50)
            obtain ⟨hA6, hr6⟩ := hfin v6 w6 h6 hg6 hn6
            go_roundw
            case rel => exact ⟨q, _, _, hA6, hr6, by rw [List.length_append, List.length_singleton]; omega, hnx⟩
            case measure => rw [hmq, mq_eq hr6]; omega
          · have n3 : (x.k == 3) = false := beq_eq_false_iff_ne.2 t3
            by_cases t4 : x.k = 4
            · have hnx := ar_one hru h91 (b := ⟨3, ⟨#[]⟩, 0, [x.t], false⟩) (by unfold argOf; rw [if_neg t2, if_neg t3, if_pos t4])
              have n4 : (x.k == 4) = true := beq_iff_eq.2 t4
              clear t2 t3 t4 hru
              go_wp2_with fail
              refine HW.out.mono ?_
              rintro e w1 ⟨rfl, hb1⟩
              have hbX := (hb1.alloc hb1.size (.cells #[.int .i64 x.k, .string x.t, .int .i64 x.n, .int .i64 x.a] 41))
              have hbA := hbX.alloc hbX.size (.cells #[.int .i64 0, .string ⟨#[]⟩, .int .i64 0, .slice none 0 0, .bool false] 50)
              go_wp2_with fail
              have HI := isR_any rb (x :: q) E 0 0 ⟨#[91]⟩ 91 rfl _ (hR.below hbA)
              rw [h91'] at HI
              refine HI.mono ?_
              rintro e w2 ⟨rfl, hb2⟩
              have hb12 := hbA.trans (hb2.mono hbA.size)
              clear HI
              have zX : w2.heap[w1.heap.size]? = some (.cells #[.int .i64 x.k, .string x.t, .int .i64 x.n, .int .i64 x.a] 41) := (hb2.block _ (by simp; omega)).trans ((heap_alloc_old _ _ (by simp)).trans (heap_alloc_new w1 _))
              have zA : w2.heap[w1.heap.size + 1]? = some (.cells #[.int .i64 0, .string ⟨#[]⟩, .int .i64 0, .slice none 0 0, .bool false] 50) := (hb2.block _ (by simp)).trans (by have := heap_alloc_new (w1.alloc (.cells #[.int .i64 x.k, .string x.t, .int .i64 x.n, .int .i64 x.a] 41)) (.cells #[.int .i64 0, .string ⟨#[]⟩, .int .i64 0, .slice none 0 0, .bool false] 50); simpa using this)
              obtain ⟨x0, x1, x2, x3⟩ := cell4 zX
              have hs1 := hb1.size
              have hR2 := hR.below hb12
              have hg2 := below_grown hb12 (some rb)
              clear zX
              have hbS := (Below.refl w2.heap.size w2).alloc (Nat.le_refl _) (.cells #[.string x.t] 9)
              have hb1S := hb12.trans (hbS.mono hb12.size)
              have hRS := hR2.below hbS
              have hgS := below_grown hb1S (some rb)
              have zS := (hbS.block _ (lt_of_block zA)).trans zA
              have hnS := heap_alloc_new w2 (.cells #[.string x.t] 9)
              have hs2 := hb12.size
              go_wp2_with (first
                | (refine store_agg rfl 50 (.tmp 6) (.tmp 45) rfl (w1.heap.size + 1) #[.int .i64 3, .string ⟨#[]⟩, .int .i64 0, .slice (some ⟨w2.heap.size, 0, none⟩) 1 1, .bool false] rfl rfl _ _ zS (by kernel_rfl) rfl rfl ?_; intro w3 hw3 hg3; (obtain ⟨K, ⟨hK, c1, f1, hN, hwr⟩, hk⟩ := hA.kind (r := ⟨3, ⟨#[]⟩, 0, ⟨some ⟨w2.heap.size, 0, none⟩, 1, 1⟩, false⟩) (b := ⟨3, ⟨#[]⟩, 0, [x.t], false⟩) hrb hRS hgS (by omega) hw3 hg3 (fun W hgW => ⟨rfl, rfl, rfl, rfl, reads_one (cell1 ((hgW.block w2.heap.size (by have := hg3.size; simp at this; omega) (fun e => by injection e with e; have := hA.grown.size; omega)).trans ((hg3.block w2.heap.size (by simp) (fun e => by injection e with e; have := lt_of_block zA; omega)).trans hnS))) ⟨hs2, by have := hgW.size; have := hg3.size; simp at this; omega⟩ (by have := hgW.size; have := hg3.size; simp at this; omega)⟩)); (obtain ⟨hz4, hO, hsO, -⟩ := hk (.cells #[.int .i64 3, .string ⟨#[]⟩, .int .i64 0, .slice (some ⟨w2.heap.size, 0, none⟩) 1 1, .bool false] 50)); dsimp only [SlV.val] at hz4; (obtain ⟨y0, y1, y2, y3, y4⟩ := cell5 hz4); (have hk := Lib.hid hk); clear hz4 hw3 hN)
                | (at_builtin; go_loud (refine append_n _ rfl (.tmp 54) (.tmp 56) slA rfl w.heap.size _ R rfl hO ⟨_, 0, none⟩ [⟨3, ⟨#[]⟩, 0, ⟨some ⟨w2.heap.size, 0, none⟩, 1, 1⟩, false⟩] 1 1 rfl rfl (cells_at _ _ (by simp) _ _) (by omega) (by omega) (by simpa using hsO) ?_; intro v6 w6 h6 hg6 hn6)))
              obtain ⟨-, -, -, hfin⟩ := hk.out (.cells #[.int .i64 3, .string ⟨#[]⟩, .int .i64 0, .slice (some ⟨w2.heap.size, 0, none⟩) 1 1, .bool false] 50)
              obtain ⟨hA6, hr6⟩ := hfin v6 w6 h6 hg6 hn6
              go_roundw
              case rel => exact ⟨q, _, _, hA6, hr6, by rw [List.length_append, List.length_singleton]; omega, hnx⟩
              case measure => rw [hmq, mq_eq hr6]; omega
            · have n4 : (x.k == 4) = false := beq_eq_false_iff_ne.2 t4
              obtain rfl := ar_stop hru h91 (argOf_no x t2 t3 t4)
              clear hru t2 t3 t4
              go_wp2_with fail
              refine HW.out.mono ?_
              rintro e w1 ⟨rfl, hb1⟩
              have hbX := (hb1.alloc hb1.size (.cells #[.int .i64 x.k, .string x.t, .int .i64 x.n, .int .i64 x.a] 41))
              have hbA := hbX.alloc hbX.size (.cells #[.int .i64 0, .string ⟨#[]⟩, .int .i64 0, .slice none 0 0, .bool false] 50)
              go_wp2_with fail
              have HI := isR_any rb (x :: q) E 0 0 ⟨#[91]⟩ 91 rfl _ (hR.below hbA)
              rw [h91'] at HI
              refine HI.mono ?_
              rintro e w2 ⟨rfl, hb2⟩
              have hb12 := hbA.trans (hb2.mono hbA.size)
              clear HI
              have zX : w2.heap[w1.heap.size]? = some (.cells #[.int .i64 x.k, .string x.t, .int .i64 x.n, .int .i64 x.a] 41) := (hb2.block _ (by simp; omega)).trans ((heap_alloc_old _ _ (by simp)).trans (heap_alloc_new w1 _))
              have zA : w2.heap[w1.heap.size + 1]? = some (.cells #[.int .i64 0, .string ⟨#[]⟩, .int .i64 0, .slice none 0 0, .bool false] 50) := (hb2.block _ (by simp)).trans (by have := heap_alloc_new (w1.alloc (.cells #[.int .i64 x.k, .string x.t, .int .i64 x.n, .int .i64 x.a] 41)) (.cells #[.int .i64 0, .string ⟨#[]⟩, .int .i64 0, .slice none 0 0, .bool false] 50); simpa using this)
              obtain ⟨x0, x1, x2, x3⟩ := cell4 zX
              have hs1 := hb1.size
              have hR2 := hR.below hb12
              have hg2 := below_grown hb12 (some rb)
              obtain ⟨pv, nv, cv, rfl⟩ := own_slice hA.own
              clear zX zA
              go_wp2_with fail
              go_ret2
              have hA3 := hA.move hrb hg2
              exact ⟨hA3.grown, ⟨pv, nv, cv⟩, rfl, hR2, hA3.done⟩
end Go.Proofs.YtgimgkjggaijoaaGreatDoor
namespace Go.Proofs.YtgimgkjggaijoaaGreatDoor
open Go.RowKit Pk Lx Sv

/-- what test leaves -/
def TestQ (w : World) (rb : Nat) (E : Int) (res : Res TestT) (e : Ending) (w' : World) : Prop :=
  w.grownBy w' (some rb) ∧ ∃ r : RTest, match res with
    | .ok (t, q) => e = .returned (.tuple #[.agg #[.string r.name, r.ag.val, r.ks.val, .int .i64 r.at_], .bool true]) ∧ RowQ w' rb q E 0 0 ∧ TestAt w' (Fresh w w') r t
    | .error (e1, a1) => e = .returned (.tuple #[.agg #[.string r.name, r.ag.val, r.ks.val, .int .i64 r.at_], .bool false]) ∧ ∃ q, RowQ w' rb q E e1 a1
/-- what tests leaves -/
def TestsQ (w : World) (rb : Nat) (E : Int) (res : Res (List TestT)) (e : Ending) (w' : World) : Prop :=
  w.grownBy w' (some rb) ∧ ∃ s : SlV, match res with
    | .ok (ts, q) => e = .returned (.tuple #[s.val, .bool true]) ∧ RowQ w' rb q E 0 0 ∧ TestsAt w' (Fresh w w') s.val ts
    | .error (e1, a1) => e = .returned (.tuple #[s.val, .bool false]) ∧ ∃ q, RowQ w' rb q E e1 a1
def TestsQC (m : Nat) : Prop := ∀ (rb : Nat) (l : List Lex) (E : Int) (d : Nat) (res : Res (List TestT)) (w : World), RowQ w rb l E 0 0 → l.length ≤ 1000000 → d ≤ 9 → testsR E m d l = some res → Calls Tryz.prog 53 #[.pointer (some ⟨rb, 0, none⟩), .int .i64 d] w (TestsQ w rb E res)
def TestQC (m : Nat) : Prop := ∀ (rb : Nat) (l : List Lex) (E : Int) (d : Nat) (res : Res TestT) (w : World), RowQ w rb l E 0 0 → l.length ≤ 1000000 → d ≤ 9 → testR E m d l = some res → Calls Tryz.prog 99 #[.pointer (some ⟨rb, 0, none⟩), .int .i64 d] w (TestQ w rb E res)
/-- where test stands: the result's box, the name's box -/
structure TbAt (w rw : World) (rb : Nat) (x : Lex) (w1 : World) : Prop where
  z0 : w1.heap[w.heap.size]? = some (.cells #[.string ⟨#[]⟩, .slice none 0 0, .slice none 0 0, .int .i64 0] 48)
  zX : w1.heap[rw.heap.size]? = some (.cells #[.int .i64 x.k, .string x.t, .int .i64 x.n, .int .i64 x.a] 41)
  gr : w.grownBy w1 (some rb)
theorem TbAt.next {w rw : World} {rb : Nat} {x : Lex} {w1 w2 : World} (h : TbAt w rw rb x w1) (hg : w1.grownBy w2 (some rb)) (h1 : rb < w.heap.size) (h2 : rb < rw.heap.size) : TbAt w rw rb x w2 :=
  ⟨(hg.block _ (lt_of_block h.z0) (fun e => by injection e with e; omega)).trans h.z0, (hg.block _ (lt_of_block h.zX) (fun e => by injection e with e; omega)).trans h.zX, grown_trans h.gr hg⟩
set_option maxHeartbeats 8000000 in
set_option maxRecDepth 100000 in
theorem testQ_of (m : Nat) (hT : TestsQC m) : TestQC (m + 1) := by
  intro rb l E d res w h hl hd hm
  have HLT := Lib.hid h.lt
  obtain ⟨hA, hB⟩ := test_name hm
  have hb0 := (Below.refl w.heap.size w).alloc (Nat.le_refl _) (.cells #[.string ⟨#[]⟩, .slice none 0 0, .slice none 0 0, .int .i64 0] 48)
  have hz0 := heap_alloc_new w (.cells #[.string ⟨#[]⟩, .slice none 0 0, .slice none 0 0, .int .i64 0] 48)
  have HN := Lib.hid (nameW_any rb l E d _ (h.below hb0))
  have hgo : ∀ (x : Lex) w1, (w.alloc (.cells #[.string ⟨#[]⟩, .slice none 0 0, .slice none 0 0, .int .i64 0] 48)).grownBy w1 (some rb) →
      TbAt w w1 rb x (w1.alloc (.cells #[.int .i64 x.k, .string x.t, .int .i64 x.n, .int .i64 x.a] 41)) ∧ rb < w1.heap.size ∧ Below w1.heap.size w1 (w1.alloc (.cells #[.int .i64 x.k, .string x.t, .int .i64 x.n, .int .i64 x.a] 41)) := fun x w1 hg1 => by
    have hb := (Below.refl w1.heap.size w1).alloc (Nat.le_refl _) (.cells #[.int .i64 x.k, .string x.t, .int .i64 x.n, .int .i64 x.a] 41)
    have z1 := (hg1.block _ (lt_of_block hz0) (fun e => by injection e with e; have := HLT.out; omega)).trans hz0
    refine ⟨⟨(hb.block _ (lt_of_block z1)).trans z1, heap_alloc_new w1 _, grown_trans (grown_trans (below_grown hb0 _) hg1) (below_grown hb _)⟩, ?_, hb⟩
    have := hg1.size
    have := hb0.size
    have := HLT.out
    omega
  have HGo := Lib.hid hgo
  clear hgo hz0 hb0 h hm
  go_enter Tryz.func99, Tryz.ntmps99
  go_wp2_with fail
  refine HN.out.mono ?_
  rintro e w1 ⟨hg1, x, hpost⟩
  obtain ⟨hB1, hl1, hbX⟩ := HGo.out x w1 hg1
  have hl1 := Lib.hid hl1
  clear HN HGo hg1
  cases hn : nameR E d l with
  | error e =>
    obtain ⟨e1, a1⟩ := e
    rw [hn] at hpost
    obtain ⟨rfl, q, hr⟩ := hpost
    obtain rfl := hB _ hn
    have hr1 := hr.below hbX
    unfold lexV
    clear hA hB hr hbX hn
    obtain ⟨⟨u0, u1, u2, u3⟩, g0, g1, g2, g3⟩ := four_at hB1.z0
    have hG := Lib.hid hB1.gr
    have hQ := Lib.hid hr1
    clear hB1 hr1
    go_wp2_with fail
    (try simp only [Exit.inBlock, Exit.then])
    refine bodyPost_ret (v := (.tuple #[.agg #[.string ⟨#[]⟩, .slice none 0 0, .slice none 0 0, .int .i64 0], .bool false])) (by simp [lexV, zeroL, results, Tryz.results99, go_sem, *]) rfl ?_
    exact ⟨grown_fresh hG.out (grown4 _ _ _ _ _ _) (Nat.le_refl _), ⟨⟨#[]⟩, ⟨none, 0, 0⟩, ⟨none, 0, 0⟩, 0⟩, rfl, _, hQ.out.grown (grown4 _ _ _ _ _ _) HLT.out⟩
  | ok p =>
    obtain ⟨⟨s', i'⟩, q⟩ := p
    have hqn := nameR_len hn
    simp only at hqn
    have hd8 : d ≤ 8 := by obtain ⟨_, _, _, _, h, _⟩ := nameR_ok hn; exact h
    rw [hn] at hpost
    obtain ⟨rfl, hr, he⟩ := hpost
    injection he with es ei
    subst es; subst ei
    obtain ⟨rA, ha, hok, herr⟩ := hA _ _ _ hn
    have hr1 := hr.below hbX
    unfold lexV
    clear hA hB hr hn
    go_wp2_with fail
    refine (argsQ_any rb q E m rA _ hr1 (by omega) ha).mono ?_
    rintro e w2 ⟨hg2, hpost⟩
    have hB2 := hB1.next hg2 HLT.out hl1.out
    cases rA with
    | error e =>
      obtain ⟨e1, a1⟩ := e
      obtain ⟨rfl, q2, hr2⟩ := hpost
      obtain rfl := herr _ rfl
      clear hok herr hr1 hB1 hbX
      obtain ⟨⟨u0, u1, u2, u3⟩, g0, g1, g2, g3⟩ := four_at hB2.z0
      have hG := Lib.hid hB2.gr
      have hQ := Lib.hid hr2
      clear hB2 hr2
      go_wp2_with fail
      (try simp only [Exit.inBlock, Exit.then])
      refine bodyPost_ret (v := (.tuple #[.agg #[.string ⟨#[]⟩, .slice none 0 0, .slice none 0 0, .int .i64 0], .bool false])) (by simp [lexV, zeroL, results, Tryz.results99, go_sem, *]) rfl ?_
      exact ⟨grown_fresh hG.out (grown4 _ _ _ _ _ _) (Nat.le_refl _), ⟨⟨#[]⟩, ⟨none, 0, 0⟩, ⟨none, 0, 0⟩, 0⟩, rfl, _, hQ.out.grown (grown4 _ _ _ _ _ _) HLT.out⟩
    | ok pa =>
      obtain ⟨ag, l2⟩ := pa
      have hal := argsR_len ha
      simp only at hal
      obtain ⟨⟨p, n, c⟩, rfl, hr2, hag⟩ := hpost
      dsimp only [SlV.val] at hag ⊢
      obtain ⟨rT, ht, hres⟩ := hok _ _ rfl
      have hT2 := hT rb l2 E (d + 1) rT w2 hr2 (by omega) (by omega) ht
      push_cast at hT2
      have hwd : IntKind.i64.wrap ((d : Int) + 1) = (d : Int) + 1 := w64 rfl (by omega) (by omega)
      have HT2 := Lib.hid hT2
      clear hT2 hok herr hr1 hr2
      go_wp2_with fail
      refine HT2.out.mono ?_
      rintro e w3 ⟨hg3, ⟨p3, n3, c3⟩, hpost⟩
      dsimp only [SlV.val] at hpost
      have hB3 := hB2.next hg3 HLT.out hl1.out
      have hgs2 := hB1.gr.size
      have hgw : ∀ g, Fresh (w1.alloc (.cells #[.int .i64 x.k, .string x.t, .int .i64 x.n, .int .i64 x.a] 41)) w2 g → w.heap.size < g := fun g hg => by have := hg.1; have := lt_of_block hB1.z0; omega
      have hgw3 : ∀ g, Fresh w2 w3 g → w.heap.size < g := fun g hg => by have := hg.1; have := lt_of_block hB2.z0; omega
      cases rT with
      | error e =>
        obtain ⟨e1, a1⟩ := e
        obtain ⟨rfl, q3, hr3⟩ := hpost
        obtain rfl : res = .error (e1, a1) := hres
        clear hgw hgw3 hgs2 hB1 hB2 hbX HT2 hag
        obtain ⟨⟨u0, u1, u2, u3⟩, g0, g1, g2, g3⟩ := four_at hB3.z0
        obtain ⟨x0, x1, x2, x3⟩ := cell4 hB3.zX
        have hG := Lib.hid hB3.gr
        clear hB3
        go_wp2_with fail
        (try simp only [Exit.inBlock, Exit.then])
        refine bodyPost_ret (v := (.tuple #[.agg #[.string x.t, .slice p n c, .slice p3 n3 c3, .int .i64 x.a], .bool false])) (by simp [lexV, zeroL, results, Tryz.results99, go_sem, *]) rfl ?_
        exact ⟨grown_fresh hG.out (grown4 _ _ _ _ _ _) (Nat.le_refl _), ⟨x.t, ⟨p, n, c⟩, ⟨p3, n3, c3⟩, x.a⟩, rfl, _, hr3.grown (grown4 _ _ _ _ _ _) HLT.out⟩
      | ok pt =>
        obtain ⟨ts, q3⟩ := pt
        obtain ⟨rfl, hr3, hts⟩ := hpost
        obtain rfl : res = .ok (.mk x.t ag ts x.a, q3) := hres
        have hfin : ∀ w9, w3.grownBy w9 (some w.heap.size) → TestAt w9 (Fresh w w9) ⟨x.t, ⟨p, n, c⟩, ⟨p3, n3, c3⟩, x.a⟩ (.mk x.t ag ts x.a) := fun w9 hg9 => by
          refine ⟨rfl, rfl, hag.keeps (fun g hX hg => (hg9.block g (Nat.lt_of_lt_of_le hg hg3.size) (fun e => by injection e with e; have := hgw g hX; omega)).trans (hg3.block g hg (fun e => by injection e with e; have := hgw g hX; have := HLT.out; omega))) (Nat.le_trans hg3.size hg9.size) fun g hX => ⟨by have := hgw g hX; omega, Nat.lt_of_lt_of_le hX.2 (Nat.le_trans hg3.size hg9.size)⟩, hts.keeps (fun g hX hg => hg9.block g hg (fun e => by injection e with e; have := hgw3 g hX; omega)) hg9.size fun g hX => ⟨by have := hgw3 g hX; omega, Nat.lt_of_lt_of_le hX.2 hg9.size⟩⟩
        have HFin := Lib.hid hfin
        clear hgw hgw3 hgs2 hB1 hB2 hbX HT2 hag hts hfin
        obtain ⟨⟨u0, u1, u2, u3⟩, g0, g1, g2, g3⟩ := four_at hB3.z0
        obtain ⟨x0, x1, x2, x3⟩ := cell4 hB3.zX
        have hG := Lib.hid hB3.gr
        clear hB3
        go_wp2_with fail
        (try simp only [Exit.inBlock, Exit.then])
        refine bodyPost_ret (v := (.tuple #[.agg #[.string x.t, .slice p n c, .slice p3 n3 c3, .int .i64 x.a], .bool true])) (by simp [lexV, zeroL, results, Tryz.results99, go_sem, *]) rfl ?_
        exact ⟨grown_fresh hG.out (grown4 _ _ _ _ _ _) (Nat.le_refl _), ⟨x.t, ⟨p, n, c⟩, ⟨p3, n3, c3⟩, x.a⟩, rfl, hr3.grown (grown4 _ _ _ _ _ _) HLT.out, HFin.out _ (grown4 _ _ _ _ _ _)⟩
/-- ahead of a test in brackets -/
def BrSt (E : Int) (m d : Nat) (l : List Lex) (acc : List TestT) (res : Res (List TestT)) : Prop :=
  ∃ rt, testR E m d l = some rt ∧ (∀ t l1, rt = .ok (t, l1) → MoreSt E 0 m d l1 (acc ++ [t]) res 0 0) ∧ ∀ e, rt = .error e → e.1 ≠ 0 ∧ res = .error e
def TqNext (w : World) (rb : Nat) (E : Int) (m d : Nat) (res : Res (List TestT)) (v : Value) (wr : World) : Prop :=
  ∃ (l : List Lex) (R : List RTest) (acc : List TestT), LsAt testL 48 TestAt w rb wr v R acc ∧ RowQ wr rb l E 0 0 ∧ l.length + R.length ≤ 1000000 ∧ BrSt E m d l acc res
set_option maxHeartbeats 8000000 in
set_option maxRecDepth 100000 in
theorem testsQ_of (m : Nat) (hT : TestQC m) : TestsQC (m + 1) := by
  intro rb l E d res w h hl hd hm
  have hrb := h.lt
  have HW := wordR_any rb l E 0 0 w h
  have HR := Lib.hid (fun w1 (hb : Below w.heap.size w w1) => h.below hb)
  by_cases h1 : l.head?.map (·.k) = some 1
  · obtain ⟨rt, ht, hok, herr⟩ := ts_name hm h1
    cases l with
    | nil => cases h1
    | cons x r =>
      have hk : x.k = 1 := by injection h1
      have hF : frontL E 0 (x :: r) = x := rfl
      rw [hF] at HW
      unfold lexV at HW
      have HW := Lib.hid HW
      have HI := Lib.hid (fun w1 (hb : Below w.heap.size w w1) => by have := isR_any rb (x :: r) E 0 0 ⟨#[40]⟩ 40 rfl w1 (h.below hb); rwa [isM_k (by omega)] at this)
      have q1 : (x.k != 1) = false := by rw [hk]; rfl
      clear h hm hk h1 hF
      go_enter Tryz.func53, Tryz.ntmps53
      go_wp2_with fail
      refine HW.out.mono ?_
      rintro e w1 ⟨rfl, hb1⟩
      have hb := hb1.alloc hb1.size (.cells #[.int .i64 x.k, .string x.t, .int .i64 x.n, .int .i64 x.a] 41)
      go_wp2_with fail
      refine (HI.out _ hb).mono ?_
      rintro e w2 ⟨rfl, hb2⟩
      have hb12 := hb.trans (hb2.mono hb.size)
      have zX : w2.heap[w1.heap.size]? = some (.cells #[.int .i64 x.k, .string x.t, .int .i64 x.n, .int .i64 x.a] 41) := (hb2.block _ (by simp)).trans (heap_alloc_new w1 _)
      obtain ⟨x0, x1, x2, x3⟩ := cell4 zX
      have hR := HR.out w2 hb12
      clear zX HI HR HW
      clear hb1 hb hb2
      have hgw := below_grown hb12 (some rb)
      have hw2 := hb12.size
      have HC := Lib.hid (hT rb (x :: r) E d rt w2 hR hl hd ht)
      clear hR
      go_wp2_with fail
      go_loopw [8] (fun v wr => v = .slice none 0 0 ∧ wr = w2) (fun _ _ => 0)
      case atStart => exact ⟨rfl, rfl⟩
      case round =>
        obtain ⟨rfl, rfl⟩ := hrel
        have hA : LsAt testL 48 TestAt w rb wr (.slice none 0 0) [] [] := ⟨ownsG.nil _ _ _ _, Elems.nil _ _ _, hgw⟩
        go_wp2_with fail
        refine HC.out.mono ?_
        rintro e w3 ⟨hg3, ⟨rn, ⟨pa, na, ca⟩, ⟨pk, nk, ck⟩, ra⟩, hpost⟩
        dsimp only [SlV.val] at hpost
        cases rt with
        | error e =>
          obtain ⟨e1, a1⟩ := e
          obtain ⟨rfl, q3, hr3⟩ := hpost
          obtain rfl := herr _ rfl
          have hal := (Below.refl w3.heap.size w3).alloc (Nat.le_refl _) (.cells #[.string rn, .slice pa na ca, .slice pk nk ck, .int .i64 ra] 48)
          go_wp2
          go_ret2
          exact ⟨grown_trans hgw (grown_trans hg3 (below_grown hal _)), ⟨none, 0, 0⟩, rfl, _, hr3.below hal⟩
        | ok p =>
          obtain ⟨t, q3⟩ := p
          obtain ⟨rfl, hr3, hat⟩ := hpost
          obtain rfl := hok _ _ rfl
          have hal := (Below.refl w3.heap.size w3).alloc (Nat.le_refl _) (.cells #[.string rn, .slice pa na ca, .slice pk nk ck, .int .i64 ra] 48)
          have hal2 := hal.alloc hal.size (.cells #[.string rn, .slice pa na ca, .slice pk nk ck, .int .i64 ra] 48)
          have hW := grown_trans hg3 (below_grown hal2 (some rb))
          have hat2 : TestAt _ (Fresh wr _) ⟨rn, ⟨pa, na, ca⟩, ⟨pk, nk, ck⟩, ra⟩ t := hat.keeps (fun g _ hg => hal2.block g hg) hal2.size fun g hg => ⟨hg.1, Nat.lt_of_lt_of_le hg.2 hal2.size⟩
          have HP := Lib.hid (fun v6 w6 h6 hg6 hn6 => hA.put (v6 := v6) (w6 := w6) testAt_keeps hrb hW hat2 h6 hg6 hn6)
          have hO := (hA.move testAt_keeps hrb hW).own
          have hsO := Nat.le_trans hA.grown.size hW.size
          have hov := hA.past hrb
          have hr3 := hr3.below hal2
          clear hat hat2 hW
          go_wp2_with (at_builtin; go_loud (refine append_n _ rfl (.tmp 39) (.tmp 41) slT rfl w.heap.size _ [] rfl hO ⟨_, 0, none⟩ [⟨rn, ⟨pa, na, ca⟩, ⟨pk, nk, ck⟩, ra⟩] 1 1 rfl rfl (cells_at _ _ (by simp) _ _) (by decide) (by decide) (by simpa using hsO) ?_; intro v6 w6 h6 hg6 hn6))
          have hA6 := HP.out v6 w6 h6 hg6 hn6
          have hr6 := hr3.own hg6 hov
          clear HP hO h6 hg6 hn6
          have HI6 := Lib.hid (isR_any rb q3 E 0 0 ⟨#[44]⟩ 44 rfl w6 hr6)
          obtain ⟨p6, n6, c6, rfl⟩ := own_slice hA6.own
          go_wp2_with fail
          refine HI6.out.mono ?_
          rintro e w7 ⟨rfl, hb7⟩
          go_wp2
          go_ret2
          obtain ⟨d1, d2⟩ := (hA6.move testAt_keeps hrb (below_grown hb7 (some rb))).done testAt_keeps
          exact ⟨grown_trans hA6.grown (below_grown hb7 _), ⟨p6, n6, c6⟩, rfl, hr6.below hb7, TestsAt.of d1 d2⟩
  · have q1 : ((frontL E 0 l).k != 1) = true := by
      cases l with
      | nil => rfl
      | cons x r => exact bne_iff_ne.2 fun e => h1 (by rw [List.head?_cons]; exact congrArg some e)
    by_cases h40 : isM 40 l = true
    · have hS : BrSt E m d l.tail [] res := ts_par hm h1 h40
      cases l with
      | nil => cases h40
      | cons x r =>
        have hF : frontL E 0 (x :: r) = x := rfl
        rw [hF] at HW q1
        unfold lexV at HW
        have HW := Lib.hid HW
        have HI := Lib.hid (fun w1 (hb : Below w.heap.size w w1) => by have := isR_any rb (x :: r) E 0 0 ⟨#[40]⟩ 40 rfl w1 (h.below hb); rwa [h40] at this)
        rw [List.length_cons] at hl
        have hS : BrSt E m d r [] res := hS
        clear h hm h1 hF h40
        go_enter Tryz.func53, Tryz.ntmps53
        go_wp2_with fail
        refine HW.out.mono ?_
        rintro e w1 ⟨rfl, hb1⟩
        have hb := hb1.alloc hb1.size (.cells #[.int .i64 x.k, .string x.t, .int .i64 x.n, .int .i64 x.a] 41)
        go_wp2_with fail
        refine (HI.out _ hb).mono ?_
        rintro e w2 ⟨rfl, hb2⟩
        have hb12 := hb.trans (hb2.mono hb.size)
        have zX : w2.heap[w1.heap.size]? = some (.cells #[.int .i64 x.k, .string x.t, .int .i64 x.n, .int .i64 x.a] 41) := (hb2.block _ (by simp)).trans (heap_alloc_new w1 _)
        obtain ⟨x0, x1, x2, x3⟩ := cell4 zX
        have hR := HR.out w2 hb12
        clear zX HI HR HW
        clear hb1 hb hb2
        have hgw := below_grown hb12 (some rb)
        obtain ⟨K, hK, c1, f1, hN, hwr⟩ := hR.step
        have hgs := grownBy_set w2 rb 1 (.int .i64 ((K : Int) + 1))
        have h0 : TqNext w rb E m d res (.slice none 0 0) (w2.setCell ⟨rb, 1, none⟩ (.int .i64 ((K : Int) + 1))) :=
          ⟨r, [], [], ⟨ownsG.nil _ _ _ _, Elems.nil _ _ _, grown_trans hgw hgs⟩, hN, by simp; omega, hS⟩
        have H0 := Lib.hid h0
        have HRB := Lib.hid hrb
        clear h0 hR hN hS hgs hgw hb12 hrb
        go_wp2_with fail
        go_loopw [8] (fun v wr => TqNext w rb E m d res v wr) (fun _ wr => mq wr rb)
        case atStart => exact H0.out
        case round =>
          have hrb := HRB.out
          clear H0 c1 f1 x0 x1 x2 x3
          obtain ⟨l', R, acc, hA, hR, hlen, rt, ht, hok, herr⟩ := hrel
          have hmq := mq_eq hR
          have HC := Lib.hid (hT rb l' E d rt wr hR (by omega) hd ht)
          go_wp2_with fail
          refine HC.out.mono ?_
          rintro e w3 ⟨hg3, ⟨rn, ⟨pa, na, ca⟩, ⟨pk, nk, ck⟩, ra⟩, hpost⟩
          dsimp only [SlV.val] at hpost
          cases rt with
          | error e =>
            obtain ⟨e1, a1⟩ := e
            obtain ⟨rfl, q3, hr3⟩ := hpost
            obtain ⟨-, rfl⟩ := herr _ rfl
            have hal := (Below.refl w3.heap.size w3).alloc (Nat.le_refl _) (.cells #[.string rn, .slice pa na ca, .slice pk nk ck, .int .i64 ra] 48)
            go_wp2
            go_ret2
            exact ⟨grown_trans hA.grown (grown_trans hg3 (below_grown hal _)), ⟨none, 0, 0⟩, rfl, _, hr3.below hal⟩
          | ok p =>
            obtain ⟨t, q3⟩ := p
            have hql := testR_len ht
            simp only at hql
            obtain ⟨rfl, hr3, hat⟩ := hpost
            have hmo := hok _ _ rfl
            clear hok herr HC
            have hal := (Below.refl w3.heap.size w3).alloc (Nat.le_refl _) (.cells #[.string rn, .slice pa na ca, .slice pk nk ck, .int .i64 ra] 48)
            have hal2 := hal.alloc hal.size (.cells #[.string rn, .slice pa na ca, .slice pk nk ck, .int .i64 ra] 48)
            have hW := grown_trans hg3 (below_grown hal2 (some rb))
            have hat2 : TestAt _ (Fresh wr _) ⟨rn, ⟨pa, na, ca⟩, ⟨pk, nk, ck⟩, ra⟩ t := hat.keeps (fun g _ hg => hal2.block g hg) hal2.size fun g hg => ⟨hg.1, Nat.lt_of_lt_of_le hg.2 hal2.size⟩
            have HP := Lib.hid (fun v6 w6 h6 hg6 hn6 => hA.put (v6 := v6) (w6 := w6) testAt_keeps hrb hW hat2 h6 hg6 hn6)
            have hO := (hA.move testAt_keeps hrb hW).own
            have hsO := Nat.le_trans hA.grown.size hW.size
            have hov := hA.past hrb
            have hr3 := hr3.below hal2
            clear hat hat2 hW
            go_wp2_with (at_builtin; go_loud (refine append_n _ rfl (.tmp 39) (.tmp 41) slT rfl w.heap.size _ R rfl hO ⟨_, 0, none⟩ [⟨rn, ⟨pa, na, ca⟩, ⟨pk, nk, ck⟩, ra⟩] 1 1 rfl rfl (cells_at _ _ (by simp) _ _) (by omega) (by omega) (by simpa using hsO) ?_; intro v6 w6 h6 hg6 hn6))
            have hA6 := HP.out v6 w6 h6 hg6 hn6
            have hr6 := hr3.own hg6 hov
            clear HP hO h6 hg6 hn6
            rcases hmo with ⟨-, -, m', r', hm', hmr, hres⟩ | ⟨h0, -⟩
            · by_cases h44 : isM 44 q3 = true
              · obtain hbr := ms_yes (a := 0) hm' hmr hres h44
                have HI6 := isR_any rb q3 E 0 0 ⟨#[44]⟩ 44 rfl w6 hr6
                rw [h44] at HI6
                have HI6 := Lib.hid HI6
                cases q3 with
                | nil => cases h44
                | cons y q4 =>
                  have hbr : BrSt E m d q4 (acc ++ [t]) res := hbr
                  go_wp2_with fail
                  refine HI6.out.mono ?_
                  rintro e w7 ⟨rfl, hb7⟩
                  have hA7 := hA6.move testAt_keeps hrb (below_grown hb7 (some rb))
                  obtain ⟨K7, hK7, c17, f17, hN7, hwr7⟩ := (hr6.below hb7).step
                  have hA8 := hA7.move testAt_keeps hrb (grownBy_set w7 rb 1 (.int .i64 ((K7 : Int) + 1)))
                  have hA8 := Lib.hid hA8
                  have hN7 := Lib.hid hN7
                  clear hA7 hA6
                  go_wp2_with fail
                  rw [List.length_cons] at hql
                  go_roundw
                  case rel => exact ⟨q4, _, _, hA8.out, hN7.out, by rw [List.length_append, List.length_singleton]; omega, hbr⟩
                  case measure => rw [hmq, mq_eq hN7.out]; omega
              · obtain ⟨he1, he2⟩ := ms_no hmr hres h44
                have HI6 := isR_any rb q3 E 0 0 ⟨#[44]⟩ 44 rfl w6 hr6
                rw [show isM 44 q3 = false by simpa using h44] at HI6
                have HI6 := Lib.hid HI6
                obtain ⟨p6, n6, c6, rfl⟩ := own_slice hA6.own
                go_wp2_with fail
                refine HI6.out.mono ?_
                rintro e w7 ⟨rfl, hb7⟩
                go_wp2_with fail
                by_cases h41 : isM 41 q3 = true
                · obtain rfl := he1 h41
                  cases q3 with
                  | nil => cases h41
                  | cons y q4 =>
                    refine (markR_yes rb y q4 E 0 0 ⟨#[41]⟩ 41 rfl w7 (hr6.below hb7) h41).mono ?_
                    rintro e w8 ⟨rfl, hr8, hg8⟩
                    go_wp2
                    go_ret2
                    obtain ⟨d1, d2⟩ := (hA6.move testAt_keeps hrb (grown_trans (below_grown hb7 (some rb)) hg8)).done testAt_keeps
                    exact ⟨grown_trans hA6.grown (grown_trans (below_grown hb7 _) hg8), ⟨p6, n6, c6⟩, rfl, hr8, TestsAt.of d1 d2⟩
                · obtain rfl := he2 h41
                  refine (markR_no rb q3 E 0 0 ⟨#[41]⟩ 41 rfl w7 (hr6.below hb7) h41).mono ?_
                  rintro e w8 ⟨rfl, hr8, hg8⟩
                  go_wp2
                  go_ret2
                  exact ⟨grown_trans hA6.grown (grown_trans (below_grown hb7 _) hg8), ⟨p6, n6, c6⟩, rfl, _, hr8⟩
            · exact absurd rfl h0
    · obtain rfl := ts_none hm h1 h40
      have HI := Lib.hid (fun w1 (hb : Below w.heap.size w w1) => by have := isR_any rb l E 0 0 ⟨#[40]⟩ 40 rfl w1 (h.below hb); rwa [show isM 40 l = false by simpa using h40] at this)
      generalize frontL E 0 l = x at *
      unfold lexV at HW
      have HW := Lib.hid HW
      clear h hm h1 h40
      go_enter Tryz.func53, Tryz.ntmps53
      go_wp2_with fail
      refine HW.out.mono ?_
      rintro e w1 ⟨rfl, hb1⟩
      have hb := hb1.alloc hb1.size (.cells #[.int .i64 x.k, .string x.t, .int .i64 x.n, .int .i64 x.a] 41)
      go_wp2_with fail
      refine (HI.out _ hb).mono ?_
      rintro e w2 ⟨rfl, hb2⟩
      have hb12 := hb.trans (hb2.mono hb.size)
      have zX : w2.heap[w1.heap.size]? = some (.cells #[.int .i64 x.k, .string x.t, .int .i64 x.n, .int .i64 x.a] 41) := (hb2.block _ (by simp)).trans (heap_alloc_new w1 _)
      obtain ⟨x0, x1, x2, x3⟩ := cell4 zX
      have hR := HR.out w2 hb12
      clear zX HI HR HW
      go_wp2_with fail
      go_ret2
      exact ⟨below_grown hb12 _, ⟨none, 0, 0⟩, rfl, hR, TestsAt.nil _ _⟩
theorem testsQC_any : ∀ m, TestsQC m ∧ TestQC m
  | 0 => ⟨fun rb l E d res w h hl hd hm => by (unfold testsR at hm; cases hm), fun rb l E d res w h hl hd hm => by (unfold testR at hm; cases hm)⟩
  | m + 1 => ⟨testsQ_of m (testsQC_any m).2, testQ_of m (testsQC_any m).1⟩
end Go.Proofs.YtgimgkjggaijoaaGreatDoor
namespace Go.Proofs.YtgimgkjggaijoaaGreatDoor
open Go.RowKit Pk Lx Sv

/-- what command leaves -/
def CmdQ (w : World) (rb : Nat) (E : Int) (res : Res CmdT) (e : Ending) (w' : World) : Prop :=
  w.grownBy w' (some rb) ∧ ∃ r : RCmd, match res with
    | .ok (t, q) => e = .returned (.tuple #[.agg #[.string r.name, r.ag.val, r.ts.val, r.bl.val, .bool r.br, .int .i64 r.at_], .bool true]) ∧ RowQ w' rb q E 0 0 ∧ CmdAt w' (Fresh w w') r t
    | .error (e1, a1) => e = .returned (.tuple #[.agg #[.string r.name, r.ag.val, r.ts.val, r.bl.val, .bool r.br, .int .i64 r.at_], .bool false]) ∧ ∃ q, RowQ w' rb q E e1 a1
def CmdQC (m : Nat) : Prop := ∀ (rb : Nat) (l : List Lex) (E : Int) (d : Nat) (res : Res CmdT) (w : World), RowQ w rb l E 0 0 → l.length ≤ 1000000 → d ≤ 9 → cmdR E m d l = some res → Calls Tryz.prog 24 #[.pointer (some ⟨rb, 0, none⟩), .int .i64 d] w (CmdQ w rb E res)
theorem grown6 (W : World) (b : Nat) (v0 v1 v2 v3 v4 v5 : Value) : W.grownBy ((((((W.setCell ⟨b, 0, none⟩ v0).setCell ⟨b, 1, none⟩ v1).setCell ⟨b, 2, none⟩ v2).setCell ⟨b, 3, none⟩ v3).setCell ⟨b, 4, none⟩ v4).setCell ⟨b, 5, none⟩ v5) (some b) :=
  grown_trans (grown5 W b v0 v1 v2 v3 v4) (grownBy_set _ b 5 v5)
theorem six_at {w1 : World} {b : Nat} {x0 x1 x2 x3 x4 x5 : Value} {t : TypeId} (h : w1.heap[b]? = some (.cells #[x0, x1, x2, x3, x4, x5] t (0, 0))) :
    (w1.cell? ⟨b, 0, none⟩ = some x0 ∧ w1.cell? ⟨b, 1, none⟩ = some x1 ∧ w1.cell? ⟨b, 2, none⟩ = some x2 ∧ w1.cell? ⟨b, 3, none⟩ = some x3 ∧ w1.cell? ⟨b, 4, none⟩ = some x4 ∧ w1.cell? ⟨b, 5, none⟩ = some x5) ∧ (w1.frozen? ⟨b, 0, none⟩ = false ∧ w1.frozen? ⟨b, 1, none⟩ = false ∧ w1.frozen? ⟨b, 2, none⟩ = false ∧ w1.frozen? ⟨b, 3, none⟩ = false ∧ w1.frozen? ⟨b, 4, none⟩ = false ∧ w1.frozen? ⟨b, 5, none⟩ = false) :=
  ⟨cell6 h, by simp [World.frozen?, h], by simp [World.frozen?, h], by simp [World.frozen?, h], by simp [World.frozen?, h], by simp [World.frozen?, h], by simp [World.frozen?, h]⟩
/-- the result laid into a block further down -/
theorem BlAt.doneB {w w0 wr : World} {rb b : Nat} {s : ByteArray} {p p' p3 : Option Addr} {n n' n3 c c' c3 : Nat} {i : Int} {R : List RCmd} {acc : List CmdT} {us : List ArgT} {tt : List TestT} (h : BlAt w w0 rb wr s ⟨p, n, c⟩ ⟨p', n', c'⟩ i (.slice p3 n3 c3) R acc) (hrb : rb < w.heap.size) (hbw : b ≤ w.heap.size) (hw : w.heap.size < w0.heap.size)
    (ha : ArgsAt w0 (fun g => w.heap.size < g ∧ g < w0.heap.size) (.slice p n c) us) (ht : TestsAt w0 (fun g => w.heap.size < g ∧ g < w0.heap.size) (.slice p' n' c') tt) {w8 w9 : World} (hg8 : wr.grownBy w8 (some rb)) (hg9 : w8.grownBy w9 (some b)) :
    CmdAt w9 (Fresh w w9) ⟨s, ⟨p, n, c⟩, ⟨p', n', c'⟩, ⟨p3, n3, c3⟩, true, i⟩ (.mk s us tt acc true i) := by
  have hbig := Nat.le_trans h.big hg8.size
  have hz : w0.heap.size ≤ w9.heap.size := Nat.le_trans hbig hg9.size
  have hK : ∀ g, (w.heap.size < g ∧ g < w0.heap.size) → g < w0.heap.size → w9.heap[g]? = w0.heap[g]? := fun g hg h2 => (hg9.block g (by omega) (fun e => by injection e with e; omega)).trans ((hg8.block g (by have := h.big; omega) (fun e => by injection e with e; omega)).trans (h.keep g h2 (by omega) (by omega)))
  have hY : ∀ g, (w.heap.size < g ∧ g < w0.heap.size) → Fresh w w9 g := fun g hg => ⟨by omega, by omega⟩
  obtain ⟨k1, k2⟩ := h.lst.done cmdAt_keeps
  have hB : ∀ g, (w0.heap.size ≤ g ∧ g < wr.heap.size) → g < wr.heap.size → w9.heap[g]? = wr.heap[g]? := fun g hg h2 => (hg9.block g (Nat.lt_of_lt_of_le h2 hg8.size) (fun e => by injection e with e; omega)).trans (hg8.block g h2 (fun e => by injection e with e; omega))
  have hY2 : ∀ g, (w0.heap.size ≤ g ∧ g < wr.heap.size) → Fresh w w9 g := fun g hg => ⟨by omega, by have := hg9.size; have := hg8.size; omega⟩
  exact ⟨⟨rfl, rfl, rfl⟩, ha.keeps hK hz hY, ht.keeps hK hz hY, (CmdsAt.of k1 k2).keeps hB (Nat.le_trans hg8.size hg9.size) hY2⟩
theorem cm_plainB {w W4 w6 w9 : World} {rb b : Nat} {s : ByteArray} {p p3 : Option Addr} {n n3 c c3 : Nat} {i : Int} {us : List ArgT} {ts : List TestT} (hrb : rb < w.heap.size) (hbw : b ≤ w.heap.size)
    (ha : ArgsAt W4 (fun g => w.heap.size < g ∧ g < W4.heap.size) (.slice p n c) us) (ht : TestsAt W4 (fun g => w.heap.size < g ∧ g < W4.heap.size) (.slice p3 n3 c3) ts) (hg6 : W4.grownBy w6 (some rb)) (hg9 : w6.grownBy w9 (some b)) :
    CmdAt w9 (Fresh w w9) ⟨s, ⟨p, n, c⟩, ⟨p3, n3, c3⟩, ⟨none, 0, 0⟩, false, i⟩ (.mk s us ts [] false i) := by
  have hK : ∀ g, (w.heap.size < g ∧ g < W4.heap.size) → g < W4.heap.size → w9.heap[g]? = W4.heap[g]? := fun g hX hg => (hg9.block g (Nat.lt_of_lt_of_le hg hg6.size) (fun e => by injection e with e; omega)).trans (hg6.block g hg (fun e => by injection e with e; omega))
  have hz := Nat.le_trans hg6.size hg9.size
  have hY : ∀ g, (w.heap.size < g ∧ g < W4.heap.size) → Fresh w w9 g := fun g hg => ⟨by omega, by omega⟩
  exact ⟨⟨rfl, rfl, rfl⟩, ha.keeps hK hz hY, ht.keeps hK hz hY, CmdsAt.nil _ _⟩
theorem CmdAt.wide {w W0 w9 : World} {r : RCmd} {t : CmdT} (h : CmdAt w9 (Fresh W0 w9) r t) (hs : w.heap.size ≤ W0.heap.size) : CmdAt w9 (Fresh w w9) r t :=
  h.keeps (fun _ _ _ => rfl) (Nat.le_refl _) fun _ hg => ⟨Nat.le_trans hs hg.1, hg.2⟩
set_option maxHeartbeats 8000000 in
set_option maxRecDepth 100000 in
theorem cmdQ_of (m : Nat) (hC : CmdQC m) : CmdQC (m + 1) := by
  intro rb l E d res w h hl hd hm
  have HLT := Lib.hid h.lt
  obtain ⟨hA, hB⟩ := cmd_name hm
  have HC := Lib.hid hC
  clear hm hC
  have hbA := (Below.refl w.heap.size w).alloc (Nat.le_refl _) (.cells #[.string ⟨#[]⟩, .slice none 0 0, .slice none 0 0, .slice none 0 0, .bool false, .int .i64 0] 46)
  have hzR := heap_alloc_new w (.cells #[.string ⟨#[]⟩, .slice none 0 0, .slice none 0 0, .slice none 0 0, .bool false, .int .i64 0] 46)
  have hsz : w.heap.size + 1 = (w.alloc (.cells #[.string ⟨#[]⟩, .slice none 0 0, .slice none 0 0, .slice none 0 0, .bool false, .int .i64 0] 46)).heap.size := by simp
  have HS0 := Lib.hid hsz
  have HA0 := Lib.hid hbA
  have HR0 := Lib.hid hzR
  clear hsz hbA hzR
  go_enter Tryz.func24, Tryz.ntmps24
  go_wp2_with fail
  have hsz := HS0.out
  have hbA := HA0.out
  have hzR := HR0.out
  clear HS0 HA0 HR0
  rw [hsz]
  generalize w.alloc (.cells #[.string ⟨#[]⟩, .slice none 0 0, .slice none 0 0, .slice none 0 0, .bool false, .int .i64 0] 46) = W0 at *
  have HZ := Lib.hid (fun W (hg : W0.grownBy W (some rb)) => show W.heap[w.heap.size]? = some (.cells #[.string ⟨#[]⟩, .slice none 0 0, .slice none 0 0, .slice none 0 0, .bool false, .int .i64 0] 46 (0, 0)) from (hg.block _ (lt_of_block hzR) (fun e => by injection e with e; have := HLT.out; omega)).trans hzR)
  have hbB := (Below.refl W0.heap.size W0).alloc (Nat.le_refl _) (.cells #[.string ⟨#[]⟩, .slice none 0 0, .slice none 0 0, .slice none 0 0, .bool false, .int .i64 0] 46)
  have hzC := heap_alloc_new W0 (.cells #[.string ⟨#[]⟩, .slice none 0 0, .slice none 0 0, .slice none 0 0, .bool false, .int .i64 0] 46)
  have hRB := (h.below hbA).below hbB
  have HRB := Lib.hid (show rb < W0.heap.size by have := HLT.out; have := hbA.size; omega)
  have HSZ := Lib.hid hsz
  have HbA := Lib.hid hbA
  clear hsz hbA hzR h
  generalize W0.alloc (.cells #[.string ⟨#[]⟩, .slice none 0 0, .slice none 0 0, .slice none 0 0, .bool false, .int .i64 0] 46) = W1 at *
  have HN := Lib.hid (nameW_any rb l E d W1 hRB)
  refine HN.out.mono ?_
  rintro e w1 ⟨hg1, x, hpost⟩
  have hg01 := grown_trans (below_grown hbB (some rb)) hg1
  have y1 := (hg1.block _ (lt_of_block hzC) (fun e => by injection e with e; have := HRB.out; omega)).trans hzC
  have hbX := (Below.refl w1.heap.size w1).alloc (Nat.le_refl _) (.cells #[.int .i64 x.k, .string x.t, .int .i64 x.n, .int .i64 x.a] 41)
  have hzX := heap_alloc_new w1 (.cells #[.int .i64 x.k, .string x.t, .int .i64 x.n, .int .i64 x.a] 41)
  replace y1 := (hbX.block _ (lt_of_block y1)).trans y1
  replace hg01 := grown_trans hg01 (below_grown hbX (some rb))
  have hl1 := Lib.hid (show rb < w1.heap.size by have := HRB.out; have := hg1.size; have := hbB.size; omega)
  clear HN hg1 hbB hzC hRB
  cases hn : nameR E d l with
  | error e =>
    obtain ⟨e1, a1⟩ := e
    rw [hn] at hpost
    obtain ⟨rfl, q, hr⟩ := hpost
    obtain rfl := hB _ hn
    have hr1 := hr.below hbX
    unfold lexV
    clear hA hB hr hbX hn hzX HC
    obtain ⟨t0, t1, t2, t3, t4, t5⟩ := cell6 y1
    obtain ⟨⟨u0, u1, u2, u3, u4, u5⟩, g0, g1, g2, g3, g4, g5⟩ := six_at (HZ.out _ hg01)
    have hG := Lib.hid hg01
    have hQ := Lib.hid hr1
    clear y1 hg01 hr1
    go_wp2_with fail
    (try simp only [Exit.inBlock, Exit.then])
    refine bodyPost_ret (v := (.tuple #[.agg #[.string ⟨#[]⟩, .slice none 0 0, .slice none 0 0, .slice none 0 0, .bool false, .int .i64 0], .bool false])) (by simp [lexV, zeroL, results, Tryz.results24, go_sem, *]) rfl ?_
    exact ⟨grown_fresh (grown_trans (below_grown HbA.out _) hG.out) (grown6 _ _ _ _ _ _ _ _) (Nat.le_refl _), ⟨⟨#[]⟩, ⟨none, 0, 0⟩, ⟨none, 0, 0⟩, ⟨none, 0, 0⟩, false, 0⟩, rfl, _, hQ.out.grown (grown6 _ _ _ _ _ _ _ _) HLT.out⟩
  | ok p =>
    obtain ⟨⟨s', i'⟩, q⟩ := p
    have hqn := nameR_len hn
    simp only at hqn
    have hd8 : d ≤ 8 := by obtain ⟨_, _, _, _, h, _⟩ := nameR_ok hn; exact h
    rw [hn] at hpost
    obtain ⟨rfl, hr, he⟩ := hpost
    injection he with es ei
    subst es; subst ei
    obtain ⟨rA, ha, hok, herr⟩ := hA _ _ _ hn
    have hr1 := hr.below hbX
    unfold lexV
    clear hA hB hr hn
    go_wp2_with fail
    refine (argsQ_any rb q E m rA _ hr1 (by omega) ha).mono ?_
    rintro e w2 ⟨hg2, hpost⟩
    have y2 := (hg2.block _ (lt_of_block y1) (fun e => by injection e with e; have := HRB.out; omega)).trans y1
    have zX2 := (hg2.block _ (lt_of_block hzX) (fun e => by injection e with e; have := hl1.out; omega)).trans hzX
    have hg02 := grown_trans hg01 hg2
    cases rA with
    | error e =>
      obtain ⟨e1, a1⟩ := e
      obtain ⟨rfl, q2, hr2⟩ := hpost
      obtain rfl := herr _ rfl
      clear hok herr hr1 hbX hzX zX2 HC hg2 hg01 y1
      obtain ⟨t0, t1, t2, t3, t4, t5⟩ := cell6 y2
      obtain ⟨⟨u0, u1, u2, u3, u4, u5⟩, g0, g1, g2, g3, g4, g5⟩ := six_at (HZ.out _ hg02)
      have hG := Lib.hid hg02
      have hQ := Lib.hid hr2
      clear y2 hg02 hr2
      go_wp2_with fail
      (try simp only [Exit.inBlock, Exit.then])
      refine bodyPost_ret (v := (.tuple #[.agg #[.string ⟨#[]⟩, .slice none 0 0, .slice none 0 0, .slice none 0 0, .bool false, .int .i64 0], .bool false])) (by simp [lexV, zeroL, results, Tryz.results24, go_sem, *]) rfl ?_
      exact ⟨grown_fresh (grown_trans (below_grown HbA.out _) hG.out) (grown6 _ _ _ _ _ _ _ _) (Nat.le_refl _), ⟨⟨#[]⟩, ⟨none, 0, 0⟩, ⟨none, 0, 0⟩, ⟨none, 0, 0⟩, false, 0⟩, rfl, _, hQ.out.grown (grown6 _ _ _ _ _ _ _ _) HLT.out⟩
    | ok pa =>
      obtain ⟨ag, l2⟩ := pa
      have hal := argsR_len ha
      simp only at hal
      obtain ⟨⟨p, n, c⟩, rfl, hr2, hag⟩ := hpost
      dsimp only [SlV.val] at hag ⊢
      obtain ⟨rT, ht, hres, hrer⟩ := hok _ _ rfl
      have hT2 := (testsQC_any m).1 rb l2 E (d + 1) rT w2 hr2 (by omega) (by omega) ht
      push_cast at hT2
      have hwd : IntKind.i64.wrap ((d : Int) + 1) = (d : Int) + 1 := w64 rfl (by omega) (by omega)
      have HT2 := Lib.hid hT2
      have hgw : ∀ g, Fresh (w1.alloc (.cells #[.int .i64 x.k, .string x.t, .int .i64 x.n, .int .i64 x.a] 41)) w2 g → W0.heap.size < g ∧ g < w2.heap.size := fun g hg => ⟨by have := hg.1; have := lt_of_block y1; omega, hg.2⟩
      have hag2 : ArgsAt w2 (fun g => W0.heap.size < g ∧ g < w2.heap.size) (.slice p n c) ag := hag.keeps (fun _ _ _ => rfl) (Nat.le_refl _) hgw
      clear hT2 hok herr hr1 hr2 hag hgw hzX hbX y1 hg01
      go_wp2_with fail
      refine HT2.out.mono ?_
      rintro e w3 ⟨hg3, ⟨p3, n3, c3⟩, hpost⟩
      dsimp only [SlV.val] at hpost
      have y3 := (hg3.block _ (lt_of_block y2) (fun e => by injection e with e; have := HRB.out; omega)).trans y2
      have zX3 := (hg3.block _ (lt_of_block zX2) (fun e => by injection e with e; have := hl1.out; omega)).trans zX2
      have hg03 := grown_trans hg02 hg3
      cases rT with
      | error e =>
        obtain ⟨e1, a1⟩ := e
        obtain ⟨rfl, q3, hr3⟩ := hpost
        obtain rfl := hrer _ rfl
        clear hres hrer hag2 zX2 zX3 y2 hg3 hg02 HT2 HC
        obtain ⟨t0, t1, t2, t3, t4, t5⟩ := cell6 y3
        obtain ⟨⟨u0, u1, u2, u3, u4, u5⟩, g0, g1, g2, g3, g4, g5⟩ := six_at (HZ.out _ hg03)
        have hG := Lib.hid hg03
        have hQ := Lib.hid hr3
        clear y3 hg03 hr3
        go_wp2_with fail
        (try simp only [Exit.inBlock, Exit.then])
        refine bodyPost_ret (v := (.tuple #[.agg #[.string ⟨#[]⟩, .slice none 0 0, .slice none 0 0, .slice none 0 0, .bool false, .int .i64 0], .bool false])) (by simp [lexV, zeroL, results, Tryz.results24, go_sem, *]) rfl ?_
        exact ⟨grown_fresh (grown_trans (below_grown HbA.out _) hG.out) (grown6 _ _ _ _ _ _ _ _) (Nat.le_refl _), ⟨⟨#[]⟩, ⟨none, 0, 0⟩, ⟨none, 0, 0⟩, ⟨none, 0, 0⟩, false, 0⟩, rfl, _, hQ.out.grown (grown6 _ _ _ _ _ _ _ _) HLT.out⟩
      | ok pt =>
        obtain ⟨ts, l3⟩ := pt
        have hl3 := testsR_len' ht
        simp only at hl3
        obtain ⟨rfl, hr3, hts⟩ := hpost
        obtain ⟨hyes, hno⟩ := hres _ _ rfl
        have hag3 : ArgsAt w3 (fun g => W0.heap.size < g ∧ g < w3.heap.size) (.slice p n c) ag := hag2.keeps (fun g hX hg => hg3.block g hg (fun e => by injection e with e; have := HRB.out; omega)) hg3.size fun g hX => ⟨hX.1, Nat.lt_of_lt_of_le hX.2 hg3.size⟩
        have hts3 : TestsAt w3 (fun g => W0.heap.size < g ∧ g < w3.heap.size) (.slice p3 n3 c3) ts := hts.keeps (fun _ _ _ => rfl) (Nat.le_refl _) fun g hX => ⟨by have := hX.1; have := lt_of_block y2; omega, hX.2⟩
        obtain ⟨x0, x1, x2, x3⟩ := cell4 zX3
        clear hres hrer hag2 hts zX2 zX3 y2 hg3 hg02 HT2
        have hst : ∀ w4, w3.grownBy w4 (some W0.heap.size) → RowQ w4 rb l3 E 0 0 ∧ ArgsAt w4 (fun g => W0.heap.size < g ∧ g < w4.heap.size) (.slice p n c) ag ∧ TestsAt w4 (fun g => W0.heap.size < g ∧ g < w4.heap.size) (.slice p3 n3 c3) ts ∧ W0.grownBy w4 (some rb) := fun w4 hg4 =>
          ⟨hr3.grown hg4 HRB.out, hag3.keeps (fun g hX hg => hg4.block g hg (fun e => by injection e with e; omega)) hg4.size (fun g hX => ⟨hX.1, Nat.lt_of_lt_of_le hX.2 hg4.size⟩), hts3.keeps (fun g hX hg => hg4.block g hg (fun e => by injection e with e; omega)) hg4.size (fun g hX => ⟨hX.1, Nat.lt_of_lt_of_le hX.2 hg4.size⟩), grown_fresh hg03 hg4 (Nat.le_refl _)⟩
        have HSt := Lib.hid hst
        clear hst hr3 hag3 hts3 hg03
        go_wp2_with (refine store_agg rfl 46 (.tmp 6) (.tmp 51) rfl W0.heap.size #[.string x.t, .slice p n c, .slice p3 n3 c3, .slice none 0 0, .bool false, .int .i64 x.a] rfl rfl _ _ y3 (by kernel_rfl) rfl rfl ?_; intro w4 hw4 hg4)
        obtain ⟨hr4, hA4, hT4, hg04⟩ := HSt.out w4 hg4
        clear HSt x0 x1 x2 x3 y3 hg4
        have HI := isR_any rb l3 E 0 0 ⟨#[123]⟩ 123 rfl w4 hr4
        by_cases h123 : isM 123 l3 = true
        · rw [h123] at HI
          refine HI.mono ?_
          rintro e w5 ⟨rfl, hb5⟩
          obtain ⟨rB, hB, hres⟩ := hyes h123
          cases l3 with
          | nil => cases h123
          | cons y r =>
            rw [List.tail_cons] at hB
            rw [List.length_cons] at hl3
            obtain ⟨K, hK, c1, f1, hN, hwr⟩ := (hr4.below hb5).step
            have hgK := grownBy_set w5 rb 1 (.int .i64 ((K : Int) + 1))
            have yK := (hgK.block _ (lt_of_block ((hb5.block _ (lt_of_block hw4)).trans hw4)) (fun e => by injection e with e; have := HRB.out; omega)).trans ((hb5.block _ (lt_of_block hw4)).trans hw4)
            have c5 := (cell6 yK).2.2.2.2.1
            have f5 := frozen_of_row _ W0.heap.size 4 _ _ yK
            have y6 : ((w5.setCell ⟨rb, 1, none⟩ (.int .i64 ((K : Int) + 1))).setCell ⟨W0.heap.size, 4, none⟩ (.bool true)).heap[W0.heap.size]? = some (.cells #[.string x.t, .slice p n c, .slice p3 n3 c3, .slice none 0 0, .bool true, .int .i64 x.a] 46) := block_set _ W0.heap.size 4 (.bool true) yK
            have gV := grownBy_set (w5.setCell ⟨rb, 1, none⟩ (.int .i64 ((K : Int) + 1))) W0.heap.size 4 (.bool true)
            have hz46 := Nat.le_trans hb5.size (Nat.le_trans hgK.size gV.size)
            have hKp : ∀ g, (W0.heap.size < g ∧ g < w4.heap.size) → g < w4.heap.size → ((w5.setCell ⟨rb, 1, none⟩ (.int .i64 ((K : Int) + 1))).setCell ⟨W0.heap.size, 4, none⟩ (.bool true)).heap[g]? = w4.heap[g]? := fun g hX hg => (gV.block g (Nat.lt_of_lt_of_le hg (Nat.le_trans hb5.size hgK.size)) (fun e => by injection e with e; omega)).trans ((hgK.block g (Nat.lt_of_lt_of_le hg hb5.size) (fun e => by injection e with e; have := HRB.out; omega)).trans (hb5.block g hg))
            have hA6 := hA4.keeps (Y := fun g => W0.heap.size < g ∧ g < ((w5.setCell ⟨rb, 1, none⟩ (.int .i64 ((K : Int) + 1))).setCell ⟨W0.heap.size, 4, none⟩ (.bool true)).heap.size) hKp hz46 fun g hX => ⟨hX.1, Nat.lt_of_lt_of_le hX.2 hz46⟩
            have hT6 := hT4.keeps (Y := fun g => W0.heap.size < g ∧ g < ((w5.setCell ⟨rb, 1, none⟩ (.int .i64 ((K : Int) + 1))).setCell ⟨W0.heap.size, 4, none⟩ (.bool true)).heap.size) hKp hz46 fun g hX => ⟨hX.1, Nat.lt_of_lt_of_le hX.2 hz46⟩
            have hr6 := hN.grown gV HRB.out
            have g06 := grown_fresh (grown_trans (grown_trans hg04 (below_grown hb5 _)) hgK) gV (Nat.le_refl _)
            have HW6 := Lib.hid (lt_of_block y6)
            have hst : ∃ m' rr, m' ≤ m ∧ blockR E m' (d + 1) r = some rr ∧ rr.map (fun p => (CmdT.mk x.t ag ts ([] ++ p.1) true x.a, p.2)) = res := ⟨m, rB, Nat.le_refl _, hB, by rw [hres]; rfl⟩
            have H6 := Lib.hid (And.intro y6 (And.intro hA6 (And.intro hT6 (And.intro hr6 g06))))
            have hwd : IntKind.i64.wrap ((d : Int) + 1) = (d : Int) + 1 := w64 rfl (by omega) (by omega)
            clear HI hyes hno hA4 hT4 hg04 hw4 hb5 hgK yK y6 gV hz46 hKp hA6 hT6 hr6 g06 hN hr4 hB hres h123
            go_wp2_with fail
            generalize (w5.setCell ⟨rb, 1, none⟩ (.int .i64 ((K : Int) + 1))).setCell ⟨W0.heap.size, 4, none⟩ (.bool true) = W6 at *
            go_loopw [] (fun wr => ∃ (l' : List Lex) (R : List RCmd) (acc : List CmdT) (v : Value), BlAt W0 W6 rb wr x.t ⟨p, n, c⟩ ⟨p3, n3, c3⟩ x.a v R acc ∧ RowQ wr rb l' E 0 0 ∧ l'.length + R.length ≤ 1000000 ∧ ∃ m' rr, m' ≤ m ∧ blockR E m' (d + 1) l' = some rr ∧ rr.map (fun p => (CmdT.mk x.t ag ts (acc ++ p.1) true x.a, p.2)) = res) (fun wr => mq wr rb)
            case atStart =>
              obtain ⟨y6, hA6, hT6, hr6, g06⟩ := H6.out
              exact ⟨r, [], [], .slice none 0 0, ⟨y6, LsB.nil _ _ _ _ _, fun _ _ _ _ => rfl, Nat.le_refl _, g06⟩, hr6, by simp; omega, hst⟩
            case round =>
              clear c1 f1 c5 f5 hst
              obtain ⟨l', R, acc, v, hA, hR, hlen, m', rr, hm', hbr, hres⟩ := hrel
              have hmq := mq_eq hR
              have HI := isR_any rb l' E 0 0 ⟨#[125]⟩ 125 rfl wr hR
              by_cases h125 : isM 125 l' = true
              · have hend := bl_end hbr hres h125
                rw [h125] at HI
                have HI := Lib.hid HI
                cases l' with
                | nil => cases h125
                | cons y q =>
                  obtain ⟨pv, nv, cv, rfl⟩ := own_slice hA.lst.own
                  obtain rfl : res = .ok (.mk x.t ag ts acc true x.a, q) := hend
                  clear hbr hres h125
                  go_wp2_with fail
                  refine HI.out.mono ?_
                  rintro e w1 ⟨rfl, hb1⟩
                  obtain ⟨K8, hK8, c1, f1, hN, hwr8⟩ := (hR.below hb1).step
                  have hg8 := grown_trans (below_grown hb1 (some rb)) (grownBy_set w1 rb 1 (.int .i64 ((K8 : Int) + 1)))
                  have hA8 := hA.move HRB.out HW6.out hg8
                  have y8 := hA8.box
                  dsimp only [SlV.val] at y8
                  have g8 := hA8.grown
                  have HDone := Lib.hid (fun w9 (hg9 : World.grownBy _ w9 (some w.heap.size)) => (hA.doneB (w9 := w9) HRB.out HbA.out.size HW6.out H6.out.2.1 H6.out.2.2.1 hg8 hg9).wide HbA.out.size)
                  clear HI hb1 hA8 hg8 hA hR
                  obtain ⟨t0, t1, t2, t3, t4, t5⟩ := cell6 y8
                  obtain ⟨⟨u0, u1, u2, u3, u4, u5⟩, g0, g1, g2, g3, g4, g5⟩ := six_at (HZ.out _ g8)
                  have hG := Lib.hid g8
                  have hQ := Lib.hid hN
                  clear y8 g8 hN
                  go_wp2_with fail
                  (try simp only [Exit.inBlock, Exit.then])
                  refine bodyPost_ret (v := (.tuple #[.agg #[.string x.t, .slice p n c, .slice p3 n3 c3, .slice pv nv cv, .bool true, .int .i64 x.a], .bool true])) (by simp [lexV, zeroL, results, Tryz.results24, go_sem, *]) rfl ?_
                  exact ⟨grown_fresh (grown_trans (below_grown HbA.out _) hG.out) (grown6 _ _ _ _ _ _ _ _) (Nat.le_refl _), ⟨x.t, ⟨p, n, c⟩, ⟨p3, n3, c3⟩, ⟨pv, nv, cv⟩, true, x.a⟩, rfl, hQ.out.grown (grown6 _ _ _ _ _ _ _ _) HLT.out, HDone.out _ (grown6 _ _ _ _ _ _ _ _)⟩
              · obtain ⟨rc, hc, hok, herr⟩ := bl_next (a := 0) hm' hbr hres h125
                rw [show isM 125 l' = false by simpa using h125] at HI
                have HI := Lib.hid HI
                clear hbr hres h125
                go_wp2_with fail
                refine HI.out.mono ?_
                rintro e w1 ⟨rfl, hb1⟩
                have hCC := HC.out rb l' E (d + 1) rc w1 (hR.below hb1) (by omega) (by omega) hc
                push_cast at hCC
                have HCC := Lib.hid hCC
                clear hCC HI
                go_wp2_with fail
                refine HCC.out.mono ?_
                rintro e w3 ⟨hg3, ⟨rn, ⟨pa, na, ca⟩, ⟨pt, nt, ct⟩, ⟨pb, nb, cb⟩, rbr, ra⟩, hpost⟩
                dsimp only [SlV.val] at hpost
                have hg13 := grown_trans (below_grown hb1 (some rb)) hg3
                have hal := (Below.refl w3.heap.size w3).alloc (Nat.le_refl _) (.cells #[.string rn, .slice pa na ca, .slice pt nt ct, .slice pb nb cb, .bool rbr, .int .i64 ra] 46)
                have hg14 := grown_trans hg13 (below_grown hal (some rb))
                have hA4 := hA.move HRB.out HW6.out hg14
                cases rc with
                | error e =>
                  obtain ⟨e1, a1⟩ := e
                  obtain ⟨rfl, q5, hr5⟩ := hpost
                  obtain ⟨-, rfl⟩ := herr _ rfl
                  obtain ⟨pv, nv, cv, rfl⟩ := own_slice hA.lst.own
                  have y8 := hA4.box
                  dsimp only [SlV.val] at y8
                  have g8 := hA4.grown
                  have hr6 := hr5.below hal
                  clear hok herr hA4 hg14 hal hg13 hg3 hb1 hA hR HCC hr5
                  obtain ⟨t0, t1, t2, t3, t4, t5⟩ := cell6 y8
                  obtain ⟨⟨u0, u1, u2, u3, u4, u5⟩, g0, g1, g2, g3, g4, g5⟩ := six_at (HZ.out _ g8)
                  have hG := Lib.hid g8
                  have hQ := Lib.hid hr6
                  clear y8 g8 hr6
                  go_wp2_with fail
                  (try simp only [Exit.inBlock, Exit.then])
                  refine bodyPost_ret (v := (.tuple #[.agg #[.string x.t, .slice p n c, .slice p3 n3 c3, .slice pv nv cv, .bool true, .int .i64 x.a], .bool false])) (by simp [lexV, zeroL, results, Tryz.results24, go_sem, *]) rfl ?_
                  exact ⟨grown_fresh (grown_trans (below_grown HbA.out _) hG.out) (grown6 _ _ _ _ _ _ _ _) (Nat.le_refl _), ⟨x.t, ⟨p, n, c⟩, ⟨p3, n3, c3⟩, ⟨pv, nv, cv⟩, true, x.a⟩, rfl, _, hQ.out.grown (grown6 _ _ _ _ _ _ _ _) HLT.out⟩
                | ok pc =>
                  obtain ⟨t, q5⟩ := pc
                  have hql := cmdR_len hc
                  simp only at hql
                  obtain ⟨rfl, hr5, hat⟩ := hpost
                  have hal2 := hal.alloc hal.size (.cells #[.string rn, .slice pa na ca, .slice pt nt ct, .slice pb nb cb, .bool rbr, .int .i64 ra] 46)
                  have hW := grown_trans hg13 (below_grown hal2 (some rb))
                  have hat2 : CmdAt _ (Fresh wr _) ⟨rn, ⟨pa, na, ca⟩, ⟨pt, nt, ct⟩, ⟨pb, nb, cb⟩, rbr, ra⟩ t := hat.keeps (fun g _ hg => hal2.block g hg) hal2.size fun g hg => ⟨Nat.le_trans hb1.size hg.1, Nat.lt_of_lt_of_le hg.2 hal2.size⟩
                  have HP := Lib.hid (fun v6 w6 h6 hg6 hn6 => hA.put (v6 := v6) (w6 := w6) HRB.out HW6.out hW hat2 h6 hg6 hn6)
                  have hmW := hA.move HRB.out HW6.out hW
                  have hO := hmW.lst.own
                  have hsO := hmW.big
                  have k3 := (cell6 hA4.box).2.2.2.1
                  have hr6 := hr5.below hal2
                  have HR6 := Lib.hid (fun v6 w6 (hg6 : World.grownBy _ w6 v.ownBlock) => (hr6.own hg6 fun k hk => by have := (hA.lst.lt k hk).1; have := HRB.out; have := HW6.out; omega).grown (grownBy_set w6 W0.heap.size 3 v6) HRB.out)
                  obtain ⟨pv, nv, cv, rfl⟩ := own_slice hA.lst.own
                  have hmo := hok _ _ rfl
                  clear hok herr hA4 hg14 hal hg13 hg3 hb1 hR HCC hr5 hat hat2 hW hr6 hmW hA
                  go_wp2_with (at_builtin; go_loud (refine append_n _ rfl (.tmp 89) (.tmp 91) slC rfl W6.heap.size _ R rfl hO ⟨_, 0, none⟩ [⟨rn, ⟨pa, na, ca⟩, ⟨pt, nt, ct⟩, ⟨pb, nb, cb⟩, rbr, ra⟩] 1 1 rfl rfl (cells_at _ _ (by simp) _ _) (by omega) (by omega) (by simpa using hsO) ?_; intro v6 w6 h6 hg6 hn6; obtain ⟨p6, n6, c6, rfl⟩ := own_slice h6; obtain ⟨z6, hB6⟩ := HP.out _ w6 h6 hg6 hn6; have hr7 := HR6.out (.slice p6 n6 c6) w6 hg6; have c36 := (cell6 z6).2.2.2.1; have f36 := frozen_of_row w6 W0.heap.size 3 _ _ z6; have hB6 := Lib.hid hB6; have hr7 := Lib.hid hr7; clear h6 hg6 hn6 z6))
                  go_roundw
                  case rel =>
                    rcases hmo with ⟨-, -, m7, r7, h1, h2, h3⟩ | ⟨h0, -⟩
                    · exact ⟨q5, _, _, _, hB6.out, hr7.out, by rw [List.length_append, List.length_singleton]; omega, m7, r7, h1, h2, h3⟩
                    · exact absurd rfl h0
                  case measure => rw [hmq, mq_eq hr7.out]; omega
        · rw [show isM 123 l3 = false by simpa using h123] at HI
          refine HI.mono ?_
          rintro e w5 ⟨rfl, hb5⟩
          have hres := hno h123
          have hr5 := hr4.below hb5
          have y5 := (hb5.block _ (lt_of_block hw4)).trans hw4
          have HY := Lib.hid (fun w6 (hg : w5.grownBy w6 (some rb)) => (hg.block _ (lt_of_block y5) (fun e => by injection e with e; have := HRB.out; omega)).trans y5)
          have HG5 := Lib.hid (grown_trans hg04 (below_grown hb5 (some rb)))
          have HCm := Lib.hid (fun w6 w9 (hg6 : w5.grownBy w6 (some rb)) (hg9 : w6.grownBy w9 (some w.heap.size)) => (cm_plainB (s := x.t) (i := x.a) (w9 := w9) HRB.out HbA.out.size hA4 hT4 (grown_trans (below_grown hb5 (some rb)) hg6) hg9).wide HbA.out.size)
          obtain ⟨t0, t1, t2, t3, t4, t5⟩ := cell6 y5
          clear HI hyes hno hA4 hT4 hg04 hw4 hb5 y5
          by_cases h59 : isM 59 l3 = true
          · unfold mustR at hres
            rw [if_pos h59] at hres
            cases l3 with
            | nil => cases h59
            | cons y r =>
              obtain rfl : res = .ok (.mk x.t ag ts [] false x.a, r) := hres
              have HM := Lib.hid (fun W (hb : Below w5.heap.size w5 W) => markR_yes rb y r E 0 0 ⟨#[59]⟩ 59 rfl W (hr5.below hb) h59)
              clear hr5
              go_wp2_with fail
              go_region_law (first
                | (go_simp; go_at_call 55; (with_reducible refine (HM.out _ (Below.refl _ _).drew).mono ?_); rintro e w6 ⟨rfl, h6, hg6⟩; have hg56 := grown_trans (below_grown (Below.refl _ _).drew _) hg6; have y6 := HY.out w6 hg56; obtain ⟨t0, t1, t2, t3, t4, t5⟩ := cell6 y6; (obtain ⟨⟨u0, u1, u2, u3, u4, u5⟩, g0, g1, g2, g3, g4, g5⟩ := six_at (HZ.out _ (grown_trans HG5.out hg56))); have hG := Lib.hid hg56; clear y6 hg56 hg6)
                | fail)
              all_goals
                go_wp2_with fail
                (try simp only [Exit.inBlock, Exit.then])
                refine bodyPost_ret (v := (.tuple #[.agg #[.string x.t, .slice p n c, .slice p3 n3 c3, .slice none 0 0, .bool false, .int .i64 x.a], .bool true])) (by simp [lexV, zeroL, results, Tryz.results24, go_sem, *]) rfl ?_
                refine ⟨grown_fresh (grown_trans (below_grown HbA.out _) (grown_trans HG5.out hG.out)) ?g (Nat.le_refl _), ⟨x.t, ⟨p, n, c⟩, ⟨p3, n3, c3⟩, ⟨none, 0, 0⟩, false, x.a⟩, rfl, h6.grown ?g HLT.out, HCm.out _ _ hG.out ?g⟩
                case g => first | exact grown6 _ _ _ _ _ _ _ _ | exact grown_trans (grown6 _ _ _ _ _ _ _ _) (below_grown (Below.refl _ _).drew _)
          · unfold mustR at hres
            rw [if_neg h59] at hres
            obtain rfl : res = .error (2, atL E l3) := hres
            have HM := Lib.hid (fun W (hb : Below w5.heap.size w5 W) => markR_no rb l3 E 0 0 ⟨#[59]⟩ 59 rfl W (hr5.below hb) h59)
            clear hr5
            go_wp2_with fail
            go_region_law (first
              | (go_simp; go_at_call 55; (with_reducible refine (HM.out _ (Below.refl _ _).drew).mono ?_); rintro e w6 ⟨rfl, h6, hg6⟩; have hg56 := grown_trans (below_grown (Below.refl _ _).drew _) hg6; have y6 := HY.out w6 hg56; obtain ⟨t0, t1, t2, t3, t4, t5⟩ := cell6 y6; (obtain ⟨⟨u0, u1, u2, u3, u4, u5⟩, g0, g1, g2, g3, g4, g5⟩ := six_at (HZ.out _ (grown_trans HG5.out hg56))); have hG := Lib.hid hg56; clear y6 hg56 hg6)
              | fail)
            all_goals
              go_wp2_with fail
              (try simp only [Exit.inBlock, Exit.then])
              refine bodyPost_ret (v := (.tuple #[.agg #[.string x.t, .slice p n c, .slice p3 n3 c3, .slice none 0 0, .bool false, .int .i64 x.a], .bool false])) (by simp [lexV, zeroL, results, Tryz.results24, go_sem, *]) rfl ?_
              refine ⟨grown_fresh (grown_trans (below_grown HbA.out _) (grown_trans HG5.out hG.out)) ?g (Nat.le_refl _), ⟨x.t, ⟨p, n, c⟩, ⟨p3, n3, c3⟩, ⟨none, 0, 0⟩, false, x.a⟩, rfl, _, h6.grown ?g HLT.out⟩
              case g => first | exact grown6 _ _ _ _ _ _ _ _ | exact grown_trans (grown6 _ _ _ _ _ _ _ _) (below_grown (Below.refl _ _).drew _)
theorem cmdQC_any : ∀ m, CmdQC m
  | 0 => fun rb l E d res w h hl hd hm => by (unfold cmdR at hm; cases hm)
  | m + 1 => cmdQ_of m (cmdQC_any m)
end Go.Proofs.YtgimgkjggaijoaaGreatDoor
