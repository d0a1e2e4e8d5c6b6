/- Walks: fold.Glob: the chunks. -/
import Derived.Test.YtlbnhkojfefccaaDoorFd7
namespace Go.Proofs.YtlbnhkojfefccaaDoor
open Go.RowKit Pk U8 Su Fo

/-- a slice of slices that the call owns -/
def ownsV (w : World) (B : Nat) (e : TypeId) (v : Value) (l : List Value) : Prop := w.ownsRow B e 1 v l.length l
theorem chI : ∃ i, Tryd.prog.info? 59 = some i ∧ i.zero = some (.slice none 0 0) ∧ i.size = 1 ∧ i.bytes = 24 :=
  info_parts (show (Tryd.prog.info? 59).map (fun i => (i.zero, i.size, i.bytes)) = some (some (.slice none 0 0), 1, 24) by kernel_rfl)
theorem append_val (w : World) {ops : Array Oper} {rest : List Oper} {o : Oper} {a : Act} {Q : Exit → Act → World → Prop} (hgd : o.guard = none) (s x : Operand)
    (ho : o.op = .call { callee := .builtin .append, args := #[s, x], argTypes := #[58, 58] }) (B : Nat) (v : Value) (l : List Value) (hs : a.eval s = v) (hown : ownsV w B 59 v l)
    (ad : Addr) (y : Value) (c : Nat) (hx : a.eval x = .slice (some ad) 1 c) (hc : ∀ j u, [y][j]? = some u → w.cell? (ad.add j) = some u) (hy : y.oneCell' = true)
    (hl : (l.length + 1) * 24 ≤ 140737488355328) (hB : B ≤ w.heap.size)
    (h : ∀ v' w', ownsV w' B 59 v' (l ++ [y]) → w.grownBy w' v.ownBlock → wpList Tryd.prog ops Q rest (a.put o.dst v') w') : wpList Tryd.prog ops Q (o :: rest) a w := by
  obtain ⟨i, hi, hz, hsize, hby⟩ := chI
  refine wpList_append_own w hgd s x _ ho B 59 i _ 1 24 Tryd.underlying58 hi hz hsize hby rfl (by decide) v l.length l hs hown ad 1 c [y] hx rfl hc (by intro u hu; rw [List.mem_singleton] at hu; rw [hu]; exact hy) (by unfold maxLen; omega) (by omega) hB ?_
  intro v' w' h1 h2 _
  refine h v' w' ?_ h2
  unfold ownsV
  rw [List.length_append, List.length_singleton]
  exact h1
theorem ownsV.alloc {w : World} {B : Nat} {e : TypeId} {v : Value} {l : List Value} (h : ownsV w B e v l) (o : Obj) : ownsV (w.alloc o) B e v l := World.ownsRow.alloc h o
/-- values and the elements that they show -/
def seesL (w : World) (C : Nat) (e : TypeId) : List Value → List (List El) → Prop
  | [], [] => True
  | v :: vs, m :: ms => seesE w C e v m ∧ seesL w C e vs ms
  | _, _ => False
theorem seesL.len {w : World} {C : Nat} {e : TypeId} : ∀ {vs : List Value} {ms : List (List El)}, seesL w C e vs ms → vs.length = ms.length
  | [], [], _ => rfl
  | _ :: _, _ :: _, h => by simp only [List.length_cons]; rw [seesL.len h.2]
  | [], _ :: _, h => h.elim
  | _ :: _, [], h => h.elim
theorem seesL.keeps {w w' : World} {C D : Nat} {e : TypeId} (hk : ∀ g cur fz, g < C → w.heap[g]? = some (Obj.cells cur e fz) → w'.heap[g]? = w.heap[g]?) (hD : C ≤ D) : ∀ {vs : List Value} {ms : List (List El)}, seesL w C e vs ms → seesL w' D e vs ms
  | [], [], _ => trivial
  | _ :: _, _ :: _, h => ⟨h.1.keeps hk hD, seesL.keeps hk hD h.2⟩
  | [], _ :: _, h => h.elim
  | _ :: _, [], h => h.elim
theorem seesL.snoc {w : World} {C : Nat} {e : TypeId} {v : Value} {m : List El} (h : seesE w C e v m) : ∀ {vs : List Value} {ms : List (List El)}, seesL w C e vs ms → seesL w C e (vs ++ [v]) (ms ++ [m])
  | [], [], _ => ⟨h, trivial⟩
  | _ :: _, _ :: _, g => ⟨g.1, seesL.snoc h g.2⟩
  | [], _ :: _, g => g.elim
  | _ :: _, [], g => g.elim
theorem seesL.get {w : World} {C : Nat} {e : TypeId} : ∀ {vs : List Value} {ms : List (List El)} (_ : seesL w C e vs ms) (k : Nat) (h1 : k < vs.length) (h2 : k < ms.length), seesE w C e vs[k] ms[k]
  | _ :: _, _ :: _, h, 0, _, _ => h.1
  | _ :: vs, _ :: ms, h, k + 1, h1, h2 => seesL.get h.2 k (by simpa using h1) (by simpa using h2)
theorem append_el0 (w : World) {ops : Array Oper} {rest : List Oper} {o : Oper} {a : Act} {Q : Exit → Act → World → Prop} (hgd : o.guard = none) (s x : Operand) {t e : TypeId} (hT : ElSl Tryd.prog t e)
    (ho : o.op = .call { callee := .builtin .append, args := #[s, x], argTypes := #[t, t] }) (b : Nat) (hs : a.eval s = .slice (some ⟨b, 0, none⟩) 0 0)
    (ad : Addr) (y : El) (c : Nat) (hx : a.eval x = .slice (some ad) 1 c) (hc : ∀ j u, (elC y)[j]? = some u → w.cell? (ad.add j) = some u)
    (h : ∀ v' w', ownsE w' w.heap.size e v' [y] → w.grownBy w' none → wpList Tryd.prog ops Q rest (a.put o.dst v') w') : wpList Tryd.prog ops Q (o :: rest) a w := by
  obtain ⟨i, hi, hz, hsize, hby⟩ := hT.hi
  refine wpList_plain hgd fun K' hK' => ?_
  have hfit : Builtin.nextslicecap (0 + 1) 0 * i.bytes ≤ 281474976710656 := growslice_fits (by omega) (by rw [hby]; omega)
  have hr := run_append_grow (P := Tryd.prog) w t o.type e i _ hT.ht hi hz ⟨b, 0, none⟩ 0 0 [] (by simp) (by simp) ad 1 c (elC y) (by rw [hsize]; rfl) hc (by omega) (by omega) hfit
  unfold Oper.wp execOp
  simp only [ho, resolve, invoke, builtin, Sem.run_bind, Sem.run_pure, Result.andThen_ok, List.map_toArray, List.map_cons, List.map_nil, hs, hx, hr]
  refine hK' _ _ (h _ _ ?_ ?_)
  · refine ⟨by simp [elC], .inr ⟨w.heap.size, _, _, rfl, Nat.le_refl _, heap_alloc_new w.drew _, ?_, ?_, ?_, ?_⟩⟩
    · exact grownCap_ge w _ _ e
    · exact grownCap_le_maxLen w _ _ e (by unfold maxLen; omega)
    · have hge := grownCap_ge w (0 + 1) 0 e
      have hz2 : (Value.agg #[Value.int IntKind.i64 0, Value.string ⟨#[]⟩]).cells.size = 2 := rfl
      rw [Array.size_append, Array.size_append, size_zeroCells, hz2]
      have h2 : (elC y).toArray.size = 2 := rfl
      have h0 : ([] : List Value).toArray.size = 0 := rfl
      rw [h2, h0]
      omega
    · have e1 : [y].flatMap elC = elC y := by simp
      rw [e1]
      simp only [Array.toList_append]
      rw [List.nil_append]
      exact List.take_left' rfl
  · exact ⟨rfl, rfl, rfl, by simp, fun k hk _ => heap_alloc_old w.drew _ hk⟩
/-- the chunk while it grows: the empty slice that was made first, or a row of the call's own -/
def curE (w : World) (C g0 : Nat) (v : Value) (l : List El) : Prop := (v = .slice (some ⟨g0, 0, none⟩) 0 0 ∧ l = []) ∨ ownsE w C 62 v l
theorem append_cur (w : World) {ops : Array Oper} {rest : List Oper} {o : Oper} {a : Act} {Q : Exit → Act → World → Prop} (hgd : o.guard = none) (s x : Operand)
    (ho : o.op = .call { callee := .builtin .append, args := #[s, x], argTypes := #[59, 59] }) (C g0 : Nat) (v : Value) (l : List El) (hs : a.eval s = v) (hcur : curE w C g0 v l)
    (ad : Addr) (y : El) (c : Nat) (hx : a.eval x = .slice (some ad) 1 c) (hc : ∀ j u, (elC y)[j]? = some u → w.cell? (ad.add j) = some u) (hl : (l.length + 1) * 24 ≤ 140737488355328) (hC : C ≤ w.heap.size)
    (h : ∀ v' w' row, ownsE w' C 62 v' (l ++ [y]) → w.grownBy w' row → (∀ g, row = some g → ownsE w C 62 v l ∧ v.ownBlock = some g) → wpList Tryd.prog ops Q rest (a.put o.dst v') w') : wpList Tryd.prog ops Q (o :: rest) a w := by
  rcases hcur with ⟨rfl, rfl⟩ | hcur
  · exact append_el0 w hgd s x elF ho g0 hs ad y c hx hc fun v' w' h1 h2 => h v' w' none (ownsE.base h1 hC) h2 fun g e => by cases e
  · exact append_el w hgd s x elF ho C v l hs hcur ad y c hx hc hl hC fun v' w' h1 h2 => h v' w' _ h1 h2 fun g e => ⟨hcur, e⟩
/-- the chunks so far -/
structure CSt (w : World) (B C g0 : Nat) (vC : Value) (Ms : List (List El)) (vc : Value) (cur : List El) : Prop where
  own : ∃ Vs, ownsV w B 59 vC Vs ∧ seesL w C 62 Vs Ms
  cur : curE w C g0 vc cur
  le : B ≤ C
  hz : C ≤ w.heap.size
theorem own_type {w : World} {B size n : Nat} {e T : TypeId} {v : Value} {xs : List Value} (hown : w.ownsRow B e size v n xs) {g : Nat} {cur : Array Value} {fz : Nat × Nat} (hg : w.heap[g]? = some (Obj.cells cur T fz)) (hT : T ≠ e) : v.ownBlock ≠ some g := by
  rcases hown.2 with ⟨rfl, _⟩ | ⟨g', cap, cur', rfl, _, hg', _⟩
  · simp [Value.ownBlock]
  · intro h
    simp only [Value.ownBlock, Option.some.injEq] at h
    subst h
    rw [hg'] at hg
    injection hg with hg
    injection hg with _ h2 _
    exact hT h2.symm
theorem row_keeps {w w' : World} {B size n : Nat} {e : TypeId} {v : Value} {xs : List Value} (h : w.ownsRow B e size v n xs) (hk : ∀ (g : Nat) (cur : Array Value) (fz : Nat × Nat), w.heap[g]? = some (Obj.cells cur e fz) → w'.heap[g]? = w.heap[g]?) : w'.ownsRow B e size v n xs := by
  refine ⟨h.1, ?_⟩
  rcases h.2 with hn | ⟨g, cap, cur, h1, h2, h3, h4⟩
  · exact .inl hn
  · exact .inr ⟨g, cap, cur, h1, h2, (hk g cur _ h3).trans h3, h4⟩
theorem CSt.push {w w' : World} {B C g0 : Nat} {vC vc vc' : Value} {Ms : List (List El)} {cur cur' : List El} {o : Obj} {row : Option Nat} (h : CSt w B C g0 vC Ms vc cur) (hown : ownsE w' C 62 vc' cur') (hg : (w.alloc o).grownBy w' row) (hr : ∀ g, row = some g → ownsE (w.alloc o) C 62 vc cur ∧ vc.ownBlock = some g) :
    CSt w' B C g0 vC Ms vc' cur' ∧ ∀ D, D ≤ C → ∀ w0, Below D w0 w → Below D w0 w' := by
  have hz := h.hz
  have hsz : w.heap.size ≤ w'.heap.size := by have := hg.size; simp at this; omega
  have hb : ∀ g, g < w.heap.size → row ≠ some g → w'.heap[g]? = w.heap[g]? := fun g h1 h2 => by
    rw [hg.block g (by simp; omega) (fun e => h2 e.symm)]
    exact heap_alloc_old w o h1
  have hlt : ∀ g, row = some g → C ≤ g := fun g e => by
    obtain ⟨h1, h2⟩ := hr g e
    exact (World.ownsRow.lt h1 g h2).1
  have hty : ∀ g cur T fz, w.heap[g]? = some (Obj.cells cur T fz) → T ≠ 62 → row ≠ some g := fun g cur T fz hc hT e => by
    obtain ⟨h1, h2⟩ := hr g e
    have hc2 : (w.alloc o).heap[g]? = some (Obj.cells cur T fz) := (heap_alloc_old w o (lt_of_block hc)).trans hc
    exact own_type h1 hc2 hT h2
  obtain ⟨Vs, h1, h2⟩ := h.own
  refine ⟨⟨⟨Vs, row_keeps h1 fun g cur fz hc => hb g (lt_of_block hc) (hty g cur _ fz hc (by decide)), seesL.keeps (fun g cur fz h3 hc => hb g (lt_of_block hc) fun e => by have := hlt g e; omega) (Nat.le_refl _) h2⟩, .inr hown, h.le, by omega⟩, fun D hD w0 hb0 => ?_⟩
  exact (hb0.alloc (by omega) o).grown hg (by simp; omega) (fun k hk => by have := hlt k hk; omega)
theorem curE.sees {w : World} {C g0 : Nat} {v : Value} {l : List El} (h : curE w C g0 v l) : seesE w w.heap.size 62 v l := by
  rcases h with ⟨rfl, rfl⟩ | h
  · exact ⟨_, 0, rfl, Nat.le_refl _, .inl rfl⟩
  · exact ownsE.sees h (Nat.le_refl _)
theorem CSt.next {w w' : World} {B C g0 : Nat} {vC vc vC' : Value} {Ms : List (List El)} {cur : List El} {o : Obj} {Vs : List Value} (h : CSt w B C g0 vC Ms vc cur) (h1 : ownsV w B 59 vC Vs) (h2 : seesL w C 62 Vs Ms) (hown : ownsV w' B 59 vC' (Vs ++ [vc])) (hg : (w.alloc o).grownBy w' vC.ownBlock) : CSt w' B w'.heap.size g0 vC' (Ms ++ [cur]) (.slice none 0 0) [] ∧ (∀ D, D ≤ B → ∀ w0, Below D w0 w → Below D w0 w') ∧ seesL w' w'.heap.size 62 (Vs ++ [vc]) (Ms ++ [cur]) := by
  have hz := h.hz
  have hle := h.le
  have hsz : w.heap.size ≤ w'.heap.size := by have := hg.size; simp at this; omega
  have hb : ∀ (g : Nat) (cur : Array Value) (fz : Nat × Nat), w.heap[g]? = some (Obj.cells cur 62 fz) → w'.heap[g]? = w.heap[g]? := fun g cur fz hc => by
    have hlt := lt_of_block hc
    rw [hg.block g (by simp; omega) (fun e => own_type h1 hc (by decide) e.symm)]
    exact heap_alloc_old w o hlt
  have hv : seesE w' w'.heap.size 62 vc cur := (curE.sees h.cur).keeps (fun g cur fz _ hc => hb g cur fz hc) (by omega)
  have hall := seesL.snoc hv (seesL.keeps (fun g cur fz _ hc => hb g cur fz hc) (show C ≤ w'.heap.size by omega) h2)
  refine ⟨⟨⟨Vs ++ [vc], hown, hall⟩, .inr (ownsE.nil _ _ _), by omega, Nat.le_refl _⟩, fun D hD w0 hb0 => ?_, hall⟩
  exact (hb0.alloc (by omega) o).grown hg (by simp; omega) (fun k hk => by have := (World.ownsRow.lt h1 k hk).1; omega)
theorem curE.one {w : World} {C g0 : Nat} {v : Value} {l : List El} (h : curE w C g0 v l) : v.oneCell' = true := by
  rcases h with ⟨rfl, -⟩ | h
  · rfl
  · rcases h.2 with ⟨rfl, _⟩ | ⟨g, cap, cur, rfl, _⟩ <;> rfl
theorem curE.alloc {w : World} {C g0 : Nat} {v : Value} {l : List El} (h : curE w C g0 v l) (o : Obj) : curE (w.alloc o) C g0 v l := by
  rcases h with h | h
  · exact .inl h
  · exact .inr (ownsE.alloc h o)
theorem CSt.alloc {w : World} {B C g0 : Nat} {vC vc : Value} {Ms : List (List El)} {cur : List El} (h : CSt w B C g0 vC Ms vc cur) (o : Obj) : CSt (w.alloc o) B C g0 vC Ms vc cur := by
  obtain ⟨Vs, h1, h2⟩ := h.own
  have hz := h.hz
  exact ⟨⟨Vs, ownsV.alloc h1 o, seesL.keeps (fun g cur fz h3 hc => heap_alloc_old w o (lt_of_block hc)) (Nat.le_refl _) h2⟩, curE.alloc h.cur o, h.le, by simp; omega⟩
theorem curE.shape {w : World} {C g0 : Nat} {v : Value} {l : List El} (h : curE w C g0 v l) : ∃ p c, v = .slice p l.length c := by
  rcases h with ⟨rfl, rfl⟩ | h
  · exact ⟨_, _, rfl⟩
  · rcases h.2 with ⟨h1, h2⟩ | ⟨g, cap, cur, h1, -⟩
    · exact ⟨none, 0, by rw [h1, h2]⟩
    · exact ⟨_, _, h1⟩
theorem cells_new1 (w : World) (o : Obj) (cs : List Value) (t : TypeId) : ∀ j u, cs[j]? = some u → ((w.alloc o).alloc (.cells cs.toArray t)).cell? ((⟨w.heap.size + 1, 0, none⟩ : Addr).add j) = some u := by
  have h := cells_new (w.alloc o) cs t
  have e : (w.alloc o).heap.size = w.heap.size + 1 := by simp
  rw [e] at h
  exact h
theorem ownsV.shape {w : World} {B : Nat} {e : TypeId} {v : Value} {l : List Value} (h : ownsV w B e v l) (hl : l ≠ []) : ∃ g cap n, v = .slice (some ⟨g, 0, none⟩) n cap ∧ n = l.length ∧ n ≤ cap ∧ g < w.heap.size ∧ ∀ j (hj : j < l.length), w.cell? ⟨g, j, none⟩ = some l[j] := by
  have hc := fun g => World.ownsRow.cells h (g := g)
  rcases h.2 with ⟨-, h2⟩ | ⟨g, cap, cur, h1, h2, h3, h4, -⟩
  · exact absurd (List.eq_nil_of_length_eq_zero h2) hl
  · refine ⟨g, cap, _, h1, rfl, h4, lt_of_block h3, fun j hj => ?_⟩
    have := hc g (by rw [h1]; rfl) j l[j] (List.getElem?_eq_getElem hj)
    rwa [Addr.add_lit, Nat.zero_add] at this
end Go.Proofs.YtlbnhkojfefccaaDoor
