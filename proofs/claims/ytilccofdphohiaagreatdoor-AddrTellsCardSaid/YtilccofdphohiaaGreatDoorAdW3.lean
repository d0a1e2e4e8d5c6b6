/- Walks: addr: spec. Walks: addr: one. Walks: addr: one, the good way. -/
import Derived.Test.YtilccofdphohiaaGreatDoorAdW2
import Derived.Test.YtilccofdphohiaaGreatDoorAdW1
namespace Go.Proofs.YtilccofdphohiaaGreatDoor
open Go.RowKit Pk Ad Tk Fo

def PairA (x : Adr × Bool) (w : World) (e : Ending) (w' : World) : Prop := e = .returned (.tuple #[.agg #[.string ⟨x.1.name.toArray⟩, .string ⟨x.1.loc.toArray⟩, .string ⟨x.1.dom.toArray⟩], .bool x.2]) ∧ Below w.heap.size w w'
theorem ixI_hit {b : UInt8} {m : List El} (h : ixT b m < m.length) : ixI b m = (ixT b m : Int) := by unfold ixI; rw [if_pos h]
theorem ixI_miss {b : UInt8} {m : List El} (h : ¬ ixT b m < m.length) : ixI b m = -1 := by unfold ixI; rw [if_neg h]
theorem specP_hit {m : List El} (h : ixT 64 m < m.length) : specP m = (⟨[], (rowP 1 2 (m.take (ixT 64 m))).1, (domP (m.drop (ixT 64 m + 1))).1⟩, (rowP 1 2 (m.take (ixT 64 m))).2 && (domP (m.drop (ixT 64 m + 1))).2) := by
  unfold specP; rw [if_pos h]
theorem specP_miss {m : List El} (h : ¬ ixT 64 m < m.length) : specP m = (nilA, false) := by unfold specP; rw [if_neg h]
theorem domP_many {l : List El} (h : l.length ≠ 1) : domP l = rowP 1 1 l := by
  match l, h with
  | [], _ => rfl
  | [t], h => exact absurd rfl h
  | a :: b :: r, _ => rfl
theorem domP_one {l : List El} (h : l.length = 1) : domP l = if l[0].kind = 5 then (bareS l[0].text.data.toList, true) else rowP 1 1 l := by
  match l, h with
  | [t], _ => rfl
theorem vals_app (a b : List El) : vals (a ++ b) = vals a ++ vals b := by unfold vals; rw [List.flatMap_append]
theorem vals_take (m : List El) (i : Nat) : (vals (m.take i)).length ≤ (vals m).length := by
  have := congrArg List.length (congrArg vals (List.take_append_drop i m))
  rw [vals_app, List.length_append] at this
  omega
theorem vals_drop (m : List El) (i : Nat) : (vals (m.drop i)).length ≤ (vals m).length := by
  have := congrArg List.length (congrArg vals (List.take_append_drop i m))
  rw [vals_app, List.length_append] at this
  omega
theorem blkKept {w w' : World} {b : Nat} {o : Obj} (hb : Below w.heap.size w w') (h : w.heap[b]? = some o) : w'.heap[b]? = some o := (hb.block b (lt_of_block h)).trans h
theorem TSl.rest {w w' : World} {g o n c k c' : Nat} {q : Option Addr} {m : List El} (hl : m.length = n) (hc : n ≤ c) (h : tokAt w g o m) (hb : Below w.heap.size w w') (hq : (c = k ∧ c' = 0) ∨ (q = some ⟨g, o + k * 2, none⟩ ∧ c' = c - k)) : TSl w' q (n - k) c' (m.drop k) := by
  have hd : (m.drop k).length = n - k := by rw [List.length_drop]; omega
  rcases hq with ⟨rfl, rfl⟩ | ⟨rfl, rfl⟩
  · exact ⟨hd, by omega, .inl (List.eq_nil_of_length_eq_zero (by omega))⟩
  · exact TSl.sub (by omega) ((h.later hb).drop k) hd
abbrev zA : Obj := .cells #[.string ⟨#[]⟩, .string ⟨#[]⟩, .string ⟨#[]⟩] 34
set_option maxHeartbeats 1000000 in
set_option maxRecDepth 100000 in
theorem spec_no (p : Option Addr) (n c : Nat) (m : List El) (w : World) (h : TSl w p n c m) (hn : n ≤ 10000000) (hx : ¬ ixT 64 m < m.length) : Calls Tryz.prog 49 #[.slice p n c] w (PairA (nilA, false) w) := by
  have hI := fun w' (hb : Below w.heap.size w w') => ix_at p n c m w' (h.later hb) hn
  rw [ixI_miss hx] at hI
  have tb : Below w.heap.size w (w.alloc zA) := (Below.refl _ _).alloc (Nat.le_refl _) _
  have k0 : (w.alloc zA).heap[w.heap.size]? = some (.cells #[.string ⟨#[]⟩, .string ⟨#[]⟩, .string ⟨#[]⟩] 34 (0, 0)) := heap_alloc_new w _
  have HI := Lib.hid hI
  clear hI h hx
  go_enter Tryz.func49, Tryz.ntmps49
  go_wp2_with (go_at_call 47; (with_reducible refine (HI.out _ tb).mono ?_); rintro e w1 ⟨rfl, hb1⟩; have kk := blkKept hb1 k0; have tb := tb.trans (hb1.mono tb.size); have y0 := Lib.cell_of_heap kk 0; have f0 := fun j => frozen_of (j := j) kk; have y1 := Lib.cell_of_heap kk 1; have y2 := Lib.cell_of_heap kk 2)
  refine bodyPost_ret (v := .tuple #[.agg #[.string ⟨#[]⟩, .string ⟨#[]⟩, .string ⟨#[]⟩], .bool false]) (by simp [results, Tryz.results49, go_sem, *]) rfl ?_
  refine ⟨rfl, ?_⟩
  exact ((tb.setCell (Nat.le_refl _) _).setCell (Nat.le_refl _) _).setCell (Nat.le_refl _) _
set_option maxHeartbeats 1000000 in
set_option maxRecDepth 100000 in
theorem spec_yes (p : Option Addr) (n c : Nat) (m : List El) (w : World) (h : TSl w p n c m) (hn : n ≤ 10000000) (hx : ixT 64 m < m.length) (hv : (vals m).length ≤ 100000000) (hT : ∀ t ∈ m, t.text.size ≤ 1000000) : Calls Tryz.prog 49 #[.slice p n c] w (PairA (specP m) w) := by
  have hI := fun w' (hb : Below w.heap.size w w') => ix_at p n c m w' (h.later hb) hn
  rw [ixI_hit hx] at hI
  rw [specP_hit hx]
  obtain ⟨hl, hc, hm⟩ := h
  obtain ⟨g, o, rfl, hcells⟩ : ∃ g o, p = some ⟨g, o, none⟩ ∧ tokAt w g o m := by
    rcases hm with h | h
    · rw [h] at hx; simp at hx
    · exact h
  generalize ixT 64 m = i at *
  have hR1 := fun w' (hb : Below w.heap.size w w') => row12_any (some ⟨g, o, none⟩) i c (m.take i) w' (TSl.sub (by omega) ((hcells.later hb).take i) (by rw [List.length_take]; omega)) (by omega) (by have := vals_take m i; omega) (fun t ht => by have := hT t (List.mem_of_mem_take ht); omega)
  have hR2 := fun w' (hb : Below w.heap.size w w') q c' hq => row11_any q (n - (i + 1)) c' (m.drop (i + 1)) w' (TSl.rest hl hc hcells hb hq) (by omega) (by have := vals_drop m (i + 1); omega) (fun t ht => by have := hT t (List.mem_of_mem_drop ht); omega)
  have tb : Below w.heap.size w (w.alloc zA) := (Below.refl _ _).alloc (Nat.le_refl _) _
  have k0 : (w.alloc zA).heap[w.heap.size]? = some (.cells #[.string ⟨#[]⟩, .string ⟨#[]⟩, .string ⟨#[]⟩] 34 (0, 0)) := heap_alloc_new w _
  have hin : i < n := by omega
  have i1 : (0 : Int) ≤ i := by omega
  have i2 : ((i : Int) < 0) = False := by simp
  have HI := Lib.hid hI
  have HR1 := Lib.hid hR1
  have HR2 := Lib.hid hR2
  generalize rowP 1 2 (m.take i) = P1 at *
  have hlD : (m.drop (i + 1)).length = n - (i + 1) := by rw [List.length_drop]; omega
  by_cases h1 : n - (i + 1) = 1
  · have q1 : (((n : Int) - ((i : Int) + 1)) == 1) = true := by rw [beq_iff_eq]; omega
    have hcc := hcells.drop (i + 1)
    have hTD : ∀ t ∈ m.drop (i + 1), t.text.size ≤ 1000000 := fun t ht => hT t (List.mem_of_mem_drop ht)
    generalize m.drop (i + 1) = D at *
    have HTD := Lib.hid hTD
    obtain ⟨t, rfl⟩ : ∃ t, D = [t] := List.length_eq_one_iff.1 (hlD.trans h1)
    have HTt : Hid (t.text.size ≤ 1000000) := HTD.out t (List.mem_singleton.2 rfl)
    clear HTD hTD
    obtain ⟨c0, c1⟩ := hcc 0 (Nat.one_pos)
    rw [Nat.zero_mul, Nat.add_zero] at c0 c1
    have hd1 : domP [t] = if t.kind = 5 then (bareS t.text.data.toList, true) else rowP 1 1 [t] := rfl
    have c0 : w.cell? ⟨g, o + (i + 1) * 2, none⟩ = some (.int .i64 t.kind) := c0
    have c1 : w.cell? ⟨g, o + (i + 1) * 2 + 1, none⟩ = some (.string t.text) := c1
    have HC0 : Hid (∀ w', Below w.heap.size w w' → w'.cell? ⟨g, o + (i + 1) * 2, none⟩ = some (.int .i64 t.kind)) := fun w' hb => laterW hb c0
    have HC1 : Hid (∀ w', Below w.heap.size w w' → w'.cell? ⟨g, o + (i + 1) * 2 + 1, none⟩ = some (.string t.text)) := fun w' hb => laterW hb c1
    have HB : Hid (∀ w', Calls Tryz.prog 80 #[.string t.text] w' (StrIs (bareS t.text.data.toList) w')) := fun w' => abare_any t.text w' HTt.out
    have hn1 : i + 1 < n := by omega
    have HR2 := Lib.hid HR2.out
    rw [h1] at HR2
    have hc1 : ¬ c = i + 1 := by omega
    rw [hd1]
    clear hI hR1 hR2 hcells hm hlD hd1 hl hx hcc c0 c1
    obtain ⟨l1, b1⟩ := P1
    generalize rowP 1 1 [t] = P2 at *
    obtain ⟨l2, b2⟩ := P2
    generalize t.kind = k at *
    generalize bareS t.text.data.toList = BL at *
    generalize t.text = T at *
    by_cases h5 : k = 5
    · have q5 : ((k : Int) == 5) = true := by rw [h5]; rfl
      rw [if_pos h5]
      clear h5
      go_enter Tryz.func49, Tryz.ntmps49
      go_wp2_with (first
        | (go_at_call 47; (with_reducible refine (HI.out _ tb).mono ?_); rintro e w1 ⟨rfl, hb1⟩; have kk := blkKept hb1 k0; have tb := tb.trans (hb1.mono tb.size))
        | (go_at_call 79; (first | (with_reducible refine (HR1.out _ tb).mono ?_) | (with_reducible refine (HR2.out _ tb _ _ (.inr ⟨rfl, rfl⟩)).mono ?_) | (with_reducible refine (HR2.out _ tb _ 0 (.inl ⟨by omega, rfl⟩)).mono ?_)); rintro e w2 ⟨rfl, hb2⟩; have kk := blkKept hb2 kk; have tb := tb.trans (hb2.mono tb.size); have y0 := Lib.cell_of_heap kk 0; have f0 := fun j => frozen_of (j := j) kk; have y1 := Lib.cell_of_heap kk 1; have y2 := Lib.cell_of_heap kk 2; have c0 := HC0.out _ tb; have c1 := HC1.out _ tb)
        | (go_at_call 80; (with_reducible refine (HB.out _).mono ?_); rintro e w3 ⟨rfl, hb3⟩; have kk := blkKept hb3 kk; have tb := tb.trans (hb3.mono tb.size); have y0 := Lib.cell_of_heap kk 0; have f0 := fun j => frozen_of (j := j) kk; have y1 := Lib.cell_of_heap kk 1; have y2 := Lib.cell_of_heap kk 2))
      all_goals refine bodyPost_ret (v := .tuple #[.agg #[.string ⟨#[]⟩, .string ⟨l1.toArray⟩, .string ⟨BL.toArray⟩], .bool (b1 && true)]) (by simp [results, Tryz.results49, go_sem, *]) rfl ?_
      all_goals exact ⟨rfl, ((tb.setCell (Nat.le_refl _) _).setCell (Nat.le_refl _) _).setCell (Nat.le_refl _) _⟩
    · have q5 : ((k : Int) == 5) = false := by rw [beq_eq_false_iff_ne]; omega
      rw [if_neg h5]
      clear h5
      go_enter Tryz.func49, Tryz.ntmps49
      go_wp2_with (first
        | (go_at_call 47; (with_reducible refine (HI.out _ tb).mono ?_); rintro e w1 ⟨rfl, hb1⟩; have kk := blkKept hb1 k0; have tb := tb.trans (hb1.mono tb.size))
        | (go_at_call 79; (first | (with_reducible refine (HR1.out _ tb).mono ?_) | (with_reducible refine (HR2.out _ tb _ _ (.inr ⟨rfl, rfl⟩)).mono ?_) | (with_reducible refine (HR2.out _ tb _ 0 (.inl ⟨by omega, rfl⟩)).mono ?_)); rintro e w2 ⟨rfl, hb2⟩; have kk := blkKept hb2 kk; have tb := tb.trans (hb2.mono tb.size); have y0 := Lib.cell_of_heap kk 0; have f0 := fun j => frozen_of (j := j) kk; have y1 := Lib.cell_of_heap kk 1; have y2 := Lib.cell_of_heap kk 2; have c0 := HC0.out _ tb; have c1 := HC1.out _ tb)
        | (go_at_call 80; (with_reducible refine (HB.out _).mono ?_); rintro e w3 ⟨rfl, hb3⟩; have kk := blkKept hb3 kk; have tb := tb.trans (hb3.mono tb.size); have y0 := Lib.cell_of_heap kk 0; have f0 := fun j => frozen_of (j := j) kk; have y1 := Lib.cell_of_heap kk 1; have y2 := Lib.cell_of_heap kk 2))
      all_goals refine bodyPost_ret (v := .tuple #[.agg #[.string ⟨#[]⟩, .string ⟨l1.toArray⟩, .string ⟨l2.toArray⟩], .bool (b1 && b2)]) (by simp [results, Tryz.results49, go_sem, *]) rfl ?_
      all_goals exact ⟨rfl, ((tb.setCell (Nat.le_refl _) _).setCell (Nat.le_refl _) _).setCell (Nat.le_refl _) _⟩
  · have q1 : (((n : Int) - ((i : Int) + 1)) == 1) = false := by rw [beq_eq_false_iff_ne]; omega
    have q1' : ((n - (i + 1) : Nat) == 1) = false := by rw [beq_eq_false_iff_ne]; omega
    have hd1 := domP_many (by rw [hlD]; exact h1)
    rw [hd1]
    generalize rowP 1 1 (m.drop (i + 1)) = P2 at *
    have HC0 : Hid (∀ w', Below w.heap.size w w' → True) := fun _ _ => trivial
    have HC1 := HC0
    have HB : Hid (∀ w', Calls Tryz.prog 80 #[.string ⟨#[]⟩] w' (StrIs (bareS []) w')) := fun w' => abare_any ⟨#[]⟩ w' (by decide)
    clear hI hR1 hR2 hcells hm hlD hd1 hl hx
    obtain ⟨l1, b1⟩ := P1
    obtain ⟨l2, b2⟩ := P2
    go_enter Tryz.func49, Tryz.ntmps49
    go_wp2_with (first
      | (go_at_call 47; (with_reducible refine (HI.out _ tb).mono ?_); rintro e w1 ⟨rfl, hb1⟩; have kk := blkKept hb1 k0; have tb := tb.trans (hb1.mono tb.size))
      | (go_at_call 79; (first | (with_reducible refine (HR1.out _ tb).mono ?_) | (with_reducible refine (HR2.out _ tb _ _ (.inr ⟨rfl, rfl⟩)).mono ?_) | (with_reducible refine (HR2.out _ tb _ 0 (.inl ⟨by omega, rfl⟩)).mono ?_)); rintro e w2 ⟨rfl, hb2⟩; have kk := blkKept hb2 kk; have tb := tb.trans (hb2.mono tb.size); have y0 := Lib.cell_of_heap kk 0; have f0 := fun j => frozen_of (j := j) kk; have y1 := Lib.cell_of_heap kk 1; have y2 := Lib.cell_of_heap kk 2; have c0 := HC0.out _ tb; have c1 := HC1.out _ tb)
      | (go_at_call 80; (with_reducible refine (HB.out _).mono ?_); rintro e w3 ⟨rfl, hb3⟩; have kk := blkKept hb3 kk; have tb := tb.trans (hb3.mono tb.size); have y0 := Lib.cell_of_heap kk 0; have f0 := fun j => frozen_of (j := j) kk; have y1 := Lib.cell_of_heap kk 1; have y2 := Lib.cell_of_heap kk 2))
    all_goals refine bodyPost_ret (v := .tuple #[.agg #[.string ⟨#[]⟩, .string ⟨l1.toArray⟩, .string ⟨l2.toArray⟩], .bool (b1 && b2)]) (by simp [results, Tryz.results49, go_sem, *]) rfl ?_
    all_goals exact ⟨rfl, ((tb.setCell (Nat.le_refl _) _).setCell (Nat.le_refl _) _).setCell (Nat.le_refl _) _⟩
theorem spec_any (p : Option Addr) (n c : Nat) (m : List El) (w : World) (h : TSl w p n c m) (hn : n ≤ 10000000) (hv : (vals m).length ≤ 100000000) (hT : ∀ t ∈ m, t.text.size ≤ 1000000) : Calls Tryz.prog 49 #[.slice p n c] w (PairA (specP m) w) := by
  by_cases hx : ixT 64 m < m.length
  · exact spec_yes p n c m w h hn hx hv hT
  · rw [specP_miss hx]
    exact spec_no p n c m w h hn hx
end Go.Proofs.YtilccofdphohiaaGreatDoor
namespace Go.Proofs.YtilccofdphohiaaGreatDoor
open Go.RowKit Pk Ad Tk Fo

theorem oneP_no {m : List El} (h : ¬ ixT 60 m < m.length) : oneP m = specP m := by unfold oneP; rw [if_neg h]
set_option maxHeartbeats 1000000 in
set_option maxRecDepth 100000 in
theorem one_no (p : Option Addr) (n c : Nat) (m : List El) (w : World) (h : TSl w p n c m) (hn : n ≤ 10000000) (hx : ¬ ixT 60 m < m.length) (hv : (vals m).length ≤ 100000000) (hT : ∀ t ∈ m, t.text.size ≤ 1000000) : Calls Tryz.prog 28 #[.slice p n c] w (PairA (oneP m) w) := by
  have hI := fun w' (hb : Below w.heap.size w w') => ix_lt p n c m w' (h.later hb) hn
  rw [ixI_miss hx] at hI
  rw [oneP_no hx]
  have hS := fun w' (hb : Below w.heap.size w w') => spec_any p n c m w' (h.later hb) hn hv hT
  generalize specP m = P at *
  obtain ⟨⟨l1, l2, l3⟩, b⟩ := P
  have tb : Below w.heap.size w (w.alloc zA) := (Below.refl _ _).alloc (Nat.le_refl _) _
  have kk : (w.alloc zA).heap[w.heap.size]? = some (.cells #[.string ⟨#[]⟩, .string ⟨#[]⟩, .string ⟨#[]⟩] 34 (0, 0)) := heap_alloc_new w _
  have HI := Lib.hid hI
  have HS := Lib.hid hS
  clear hI hS h hx hv hT
  go_enter Tryz.func28, Tryz.ntmps28
  go_wp2_with (first
    | (go_at_call 47; (with_reducible refine (HI.out _ tb).mono ?_); rintro e w1 ⟨rfl, hb1⟩; have kk := blkKept hb1 kk; have tb := tb.trans (hb1.mono tb.size))
    | (go_at_call 49; (with_reducible refine (HS.out _ tb).mono ?_); rintro e w2 ⟨rfl, hb2⟩; have kk := blkKept hb2 kk; have tb := tb.trans (hb2.mono tb.size); have y0 := Lib.cell_of_heap kk 0; have f0 := fun j => frozen_of (j := j) kk; have y1 := Lib.cell_of_heap kk 1; have y2 := Lib.cell_of_heap kk 2))
  refine bodyPost_ret (v := .tuple #[.agg #[.string ⟨l1.toArray⟩, .string ⟨l2.toArray⟩, .string ⟨l3.toArray⟩], .bool b]) (by simp [results, Tryz.results28, go_sem, *]) rfl ?_
  exact ⟨rfl, ((tb.setCell (Nat.le_refl _) _).setCell (Nat.le_refl _) _).setCell (Nat.le_refl _) _⟩
theorem oneP_yes {m : List El} (h : ixT 60 m < m.length) : oneP m = if (namP (m.take (ixT 60 m))).2 = true ∧ ixT 62 (m.drop (ixT 60 m + 1)) + 1 = (m.drop (ixT 60 m + 1)).length then
      (⟨(namP (m.take (ixT 60 m))).1, (specP (routeL ((m.drop (ixT 60 m + 1)).take (ixT 62 (m.drop (ixT 60 m + 1)))))).1.loc, (specP (routeL ((m.drop (ixT 60 m + 1)).take (ixT 62 (m.drop (ixT 60 m + 1)))))).1.dom⟩, (specP (routeL ((m.drop (ixT 60 m + 1)).take (ixT 62 (m.drop (ixT 60 m + 1)))))).2)
    else (nilA, false) := by unfold oneP; rw [if_pos h]
/-- what stands behind the bracket -/
theorem rest_q {c k : Nat} {g o : Nat} (hk : k ≤ c) : ∃ (q : Option Addr) (c' : Nat), ((c = k ∧ c' = 0 ∧ q = some ⟨g, o, none⟩) ∨ (k < c ∧ q = some ⟨g, o + k * 2, none⟩ ∧ c' = c - k)) := by
  by_cases h : c = k
  · exact ⟨_, _, .inl ⟨h, rfl, rfl⟩⟩
  · exact ⟨_, _, .inr ⟨by omega, rfl, rfl⟩⟩
theorem namL_le : ∀ (m : List El) (b : Bool), (namL b m).length ≤ (vals m).length + m.length
  | [], _ => by simp [namL, vals]
  | t :: r, b => by
    have := namL_le r false
    unfold namL
    have e : vals (t :: r) = valE t ++ vals r := by unfold vals; rw [List.flatMap_cons]
    rw [e, List.length_append, List.length_append, List.length_cons]
    split
    · omega
    · rw [List.length_cons]; omega
set_option maxHeartbeats 1000000 in
set_option maxRecDepth 100000 in
theorem one_bad (p : Option Addr) (n c : Nat) (m : List El) (w : World) (h : TSl w p n c m) (hn : n ≤ 10000000) (hx : ixT 60 m < m.length) (hv : (vals m).length ≤ 10000000) (hT : ∀ t ∈ m, t.text.size ≤ 1000000)
    (hbad : ¬ ((namP (m.take (ixT 60 m))).2 = true ∧ ixT 62 (m.drop (ixT 60 m + 1)) + 1 = (m.drop (ixT 60 m + 1)).length)) : Calls Tryz.prog 28 #[.slice p n c] w (PairA (oneP m) w) := by
  have hI := fun w' (hb : Below w.heap.size w w') => ix_lt p n c m w' (h.later hb) hn
  rw [ixI_hit hx] at hI
  rw [oneP_yes hx]
  obtain ⟨hl, hc, hm⟩ := h
  obtain ⟨g, o, rfl, hcells⟩ : ∃ g o, p = some ⟨g, o, none⟩ ∧ tokAt w g o m := by
    rcases hm with h | h
    · rw [h] at hx; simp at hx
    · exact h
  generalize ixT 60 m = i at *
  have hin : i < n := by omega
  have i1 : (0 : Int) ≤ i := by omega
  have i2 : ((i : Int) < 0) = False := by simp
  have tb : Below w.heap.size w (w.alloc zA) := (Below.refl _ _).alloc (Nat.le_refl _) _
  have kk : (w.alloc zA).heap[w.heap.size]? = some (.cells #[.string ⟨#[]⟩, .string ⟨#[]⟩, .string ⟨#[]⟩] 34 (0, 0)) := heap_alloc_new w _
  have hN := fun w' (hb : Below w.heap.size w w') => name_any (some ⟨g, o, none⟩) i c (m.take i) w' (TSl.sub (by omega) ((hcells.later hb).take i) (by rw [List.length_take]; omega)) (by omega) (by have := namL_le (m.take i) true; have := vals_take m i; have := List.length_take_le i m; omega) (fun t ht => by have := hT t (List.mem_of_mem_take ht); omega)
  have hG := fun w' (hb : Below w.heap.size w w') q c' hq => ix_gt q (n - (i + 1)) c' (m.drop (i + 1)) w' (TSl.rest hl hc hcells hb hq) (by omega)
  generalize namP (m.take i) = NP at *
  obtain ⟨nl, nb⟩ := NP
  have hlD : (m.drop (i + 1)).length = n - (i + 1) := by rw [List.length_drop]; omega
  rw [if_neg hbad]
  rw [hlD] at hbad
  obtain ⟨sv, hsv⟩ : ∃ sv, sv = ixI 62 (m.drop (i + 1)) := ⟨_, rfl⟩
  rw [← hsv] at hG
  have HI := Lib.hid hI
  have HN := Lib.hid hN
  have HG := Lib.hid hG
  have hsv2 : nb = true → sv < 0 ∨ (0 ≤ sv ∧ sv ≠ (n - (i + 1) : Nat) - 1) := fun hb => by
    rw [hsv]
    by_cases hh : ixT 62 (m.drop (i + 1)) < (m.drop (i + 1)).length
    · rw [ixI_hit hh]
      refine .inr ⟨by omega, fun e => hbad ⟨hb, ?_⟩⟩
      omega
    · rw [ixI_miss hh]; exact .inl (by omega)
  clear hI hN hG hcells hm hlD hl hx hbad hsv hv hT
  cases nb with
  | false =>
    clear hsv2
    go_enter Tryz.func28, Tryz.ntmps28
    go_wp2_with (first
      | (go_at_call 47; (first | (with_reducible refine (HI.out _ tb).mono ?_) | (with_reducible refine (HG.out _ tb _ _ (.inr ⟨rfl, rfl⟩)).mono ?_) | (with_reducible refine (HG.out _ tb _ 0 (.inl ⟨by omega, rfl⟩)).mono ?_)); rintro e w1 ⟨rfl, hb1⟩; have kk := blkKept hb1 kk; have tb := tb.trans (hb1.mono tb.size); have y0 := Lib.cell_of_heap kk 0; have f0 := fun j => frozen_of (j := j) kk; have y1 := Lib.cell_of_heap kk 1; have y2 := Lib.cell_of_heap kk 2)
      | (go_at_call 50; (with_reducible refine (HN.out _ tb).mono ?_); rintro e w2 ⟨rfl, hb2⟩; have kk := blkKept hb2 kk; have tb := tb.trans (hb2.mono tb.size); have y0 := Lib.cell_of_heap kk 0; have f0 := fun j => frozen_of (j := j) kk; have y1 := Lib.cell_of_heap kk 1; have y2 := Lib.cell_of_heap kk 2)
      )
    all_goals refine bodyPost_ret (v := .tuple #[.agg #[.string ⟨#[]⟩, .string ⟨#[]⟩, .string ⟨#[]⟩], .bool false]) (by simp [results, Tryz.results28, go_sem, *]) rfl ?_
    all_goals exact ⟨rfl, ((tb.setCell (Nat.le_refl _) _).setCell (Nat.le_refl _) _).setCell (Nat.le_refl _) _⟩
  | true =>
    rcases hsv2 rfl with hs | ⟨hs, hs2⟩
    · have q1 : decide (sv < 0) = true := decide_eq_true hs
      clear hsv2
      go_enter Tryz.func28, Tryz.ntmps28
      go_wp2_with (first
        | (go_at_call 47; (first | (with_reducible refine (HI.out _ tb).mono ?_) | (with_reducible refine (HG.out _ tb _ _ (.inr ⟨rfl, rfl⟩)).mono ?_) | (with_reducible refine (HG.out _ tb _ 0 (.inl ⟨by omega, rfl⟩)).mono ?_)); rintro e w1 ⟨rfl, hb1⟩; have kk := blkKept hb1 kk; have tb := tb.trans (hb1.mono tb.size); have y0 := Lib.cell_of_heap kk 0; have f0 := fun j => frozen_of (j := j) kk; have y1 := Lib.cell_of_heap kk 1; have y2 := Lib.cell_of_heap kk 2)
        | (go_at_call 50; (with_reducible refine (HN.out _ tb).mono ?_); rintro e w2 ⟨rfl, hb2⟩; have kk := blkKept hb2 kk; have tb := tb.trans (hb2.mono tb.size); have y0 := Lib.cell_of_heap kk 0; have f0 := fun j => frozen_of (j := j) kk; have y1 := Lib.cell_of_heap kk 1; have y2 := Lib.cell_of_heap kk 2)
        )
      all_goals refine bodyPost_ret (v := .tuple #[.agg #[.string ⟨#[]⟩, .string ⟨#[]⟩, .string ⟨#[]⟩], .bool false]) (by simp [results, Tryz.results28, go_sem, *]) rfl ?_
      all_goals exact ⟨rfl, ((tb.setCell (Nat.le_refl _) _).setCell (Nat.le_refl _) _).setCell (Nat.le_refl _) _⟩
    · have q1 : decide (sv < 0) = false := decide_eq_false (by omega)
      have q2 : (sv != ((n - (i + 1) : Nat) : Int) - 1) = true := bne_iff_ne.2 hs2
      have hw : IntKind.i64.wrap (((n - (i + 1) : Nat) : Int) - 1) = ((n - (i + 1) : Nat) : Int) - 1 := by rw [IntKind.wrap_i64]; omega
      have hw2 : wrap64 (((n - (i + 1) : Nat) : Int) - 1) = ((n - (i + 1) : Nat) : Int) - 1 := by unfold wrap64; omega
      clear hsv2
      go_enter Tryz.func28, Tryz.ntmps28
      go_wp2_with (first
        | (go_at_call 47; (first | (with_reducible refine (HI.out _ tb).mono ?_) | (with_reducible refine (HG.out _ tb _ _ (.inr ⟨rfl, rfl⟩)).mono ?_) | (with_reducible refine (HG.out _ tb _ 0 (.inl ⟨by omega, rfl⟩)).mono ?_)); rintro e w1 ⟨rfl, hb1⟩; have kk := blkKept hb1 kk; have tb := tb.trans (hb1.mono tb.size); have y0 := Lib.cell_of_heap kk 0; have f0 := fun j => frozen_of (j := j) kk; have y1 := Lib.cell_of_heap kk 1; have y2 := Lib.cell_of_heap kk 2)
        | (go_at_call 50; (with_reducible refine (HN.out _ tb).mono ?_); rintro e w2 ⟨rfl, hb2⟩; have kk := blkKept hb2 kk; have tb := tb.trans (hb2.mono tb.size); have y0 := Lib.cell_of_heap kk 0; have f0 := fun j => frozen_of (j := j) kk; have y1 := Lib.cell_of_heap kk 1; have y2 := Lib.cell_of_heap kk 2)
        )
      all_goals refine bodyPost_ret (v := .tuple #[.agg #[.string ⟨#[]⟩, .string ⟨#[]⟩, .string ⟨#[]⟩], .bool false]) (by simp [results, Tryz.results28, go_sem, *]) rfl ?_
      all_goals exact ⟨rfl, ((tb.setCell (Nat.le_refl _) _).setCell (Nat.le_refl _) _).setCell (Nat.le_refl _) _⟩
end Go.Proofs.YtilccofdphohiaaGreatDoor
namespace Go.Proofs.YtilccofdphohiaaGreatDoor
open Go.RowKit Pk Ad Tk Fo

theorem route_no {E : List El} (h : ∀ t r, E = t :: r → isT 64 t = false) : routeL E = E := by
  cases E with
  | nil => rfl
  | cons t r =>
    show (if isT 64 t = true then _ else _) = _
    rw [if_neg (by rw [h t r rfl]; decide)]
theorem route_yes {t : El} {r : List El} (h : isT 64 t = true) : routeL (t :: r) = if ixT 58 (t :: r) < (t :: r).length then (t :: r).drop (ixT 58 (t :: r) + 1) else t :: r := by
  show (if isT 64 t = true then _ else _) = _
  rw [if_pos h]
theorem row_set3 {w : World} {b j : Nat} {cs : Array Value} {T : TypeId} {x : Value} (h : w.heap[b]? = some (.cells cs T (0, 0))) : (w.setCell ⟨b, j, none⟩ x).heap[b]? = some (.cells (cs.setIfInBounds j x) T (0, 0)) := by
  simp [World.setCell, Array.getElem?_modify, h]
theorem row_alloc {w : World} {b : Nat} {o : Obj} (O : Obj) (h : w.heap[b]? = some o) : (w.alloc O).heap[b]? = some o := blkKept ((Below.refl w.heap.size w).alloc (Nat.le_refl _) O) h
theorem after_st {w : World} {b : Nat} {T : TypeId} {a0 a1 a2 x y : Value} (O : Obj) (h : w.heap[b]? = some (.cells #[a0, a1, a2] T (0, 0))) :
    (((w.setCell ⟨b, 0, none⟩ x).alloc O).cell? ⟨b, 1, none⟩ = some a1 ∧ ((w.setCell ⟨b, 0, none⟩ x).alloc O).frozen? ⟨b, 1, none⟩ = false) ∧
    ((((w.setCell ⟨b, 0, none⟩ x).setCell ⟨b, 1, none⟩ y).alloc O).cell? ⟨b, 2, none⟩ = some a2 ∧ (((w.setCell ⟨b, 0, none⟩ x).setCell ⟨b, 1, none⟩ y).alloc O).frozen? ⟨b, 2, none⟩ = false) := by
  have h1 := row_set3 (j := 0) (x := x) h
  have h2 := row_set3 (j := 1) (x := y) h1
  exact ⟨⟨(Lib.cell_of_heap (row_alloc O h1) 1).trans rfl, frozen_of (row_alloc O h1)⟩, ⟨(Lib.cell_of_heap (row_alloc O h2) 2).trans rfl, frozen_of (row_alloc O h2)⟩⟩
theorem three_alloc {w0 w : World} {B : Nat} (h : Below B w0 w) (hB : B ≤ w0.heap.size) (x y z : Value) (O : Obj) : Below B w0 ((((w.setCell ⟨B, 0, none⟩ x).setCell ⟨B, 1, none⟩ y).setCell ⟨B, 2, none⟩ z).alloc O) := by
  have t3 := ((h.setCell (p := ⟨B, 0, none⟩) (Nat.le_refl _) x).setCell (p := ⟨B, 1, none⟩) (Nat.le_refl _) y).setCell (p := ⟨B, 2, none⟩) (Nat.le_refl _) z
  exact t3.alloc (Nat.le_trans hB t3.size) O
theorem TSl.cut {w w' : World} {g O N C k : Nat} {E : List El} (hl : E.length = N) (hc : N < C) (h : tokAt w g O E) (hb : Below w.heap.size w w') (hk : k ≤ N) : TSl w' (some ⟨g, O + k * 2, none⟩) (N - k) (C - k) (E.drop k) :=
  TSl.sub (by omega) ((h.later hb).drop k) (by rw [List.length_drop]; omega)
set_option maxHeartbeats 1000000 in
set_option maxRecDepth 100000 in
theorem one_e0 (p : Option Addr) (n c : Nat) (m : List El) (w : World) (h : TSl w p n c m) (hn : n ≤ 10000000) (hx : ixT 60 m < m.length) (hv : (vals m).length ≤ 10000000) (hT : ∀ t ∈ m, t.text.size ≤ 1000000)
    (hgood : (namP (m.take (ixT 60 m))).2 = true ∧ ixT 62 (m.drop (ixT 60 m + 1)) + 1 = (m.drop (ixT 60 m + 1)).length) : Calls Tryz.prog 28 #[.slice p n c] w (PairA (oneP m) w) := by
  have hI := fun w' (hb : Below w.heap.size w w') => ix_lt p n c m w' (h.later hb) hn
  rw [ixI_hit hx] at hI
  rw [oneP_yes hx]
  obtain ⟨hl, hc, hm⟩ := h
  obtain ⟨g, o, rfl, hcells⟩ : ∃ g o, p = some ⟨g, o, none⟩ ∧ tokAt w g o m := by
    rcases hm with h | h
    · rw [h] at hx; simp at hx
    · exact h
  generalize ixT 60 m = i at *
  have hin : i < n := by omega
  have i1 : (0 : Int) ≤ i := by omega
  have i2 : ((i : Int) < 0) = False := by simp
  have tb : Below w.heap.size w (w.alloc zA) := (Below.refl _ _).alloc (Nat.le_refl _) _
  have kk : (w.alloc zA).heap[w.heap.size]? = some (.cells #[.string ⟨#[]⟩, .string ⟨#[]⟩, .string ⟨#[]⟩] 34 (0, 0)) := heap_alloc_new w _
  have hN := fun w' (hb : Below w.heap.size w w') => name_any (some ⟨g, o, none⟩) i c (m.take i) w' (TSl.sub (by omega) ((hcells.later hb).take i) (by rw [List.length_take]; omega)) (by omega) (by have := namL_le (m.take i) true; have := vals_take m i; have := List.length_take_le i m; omega) (fun t ht => by have := hT t (List.mem_of_mem_take ht); omega)
  have hG := fun w' (hb : Below w.heap.size w w') q c' hq => ix_gt q (n - (i + 1)) c' (m.drop (i + 1)) w' (TSl.rest hl hc hcells hb hq) (by omega)
  generalize namP (m.take i) = NP at *
  obtain ⟨nl, nb⟩ := NP
  have hlD : (m.drop (i + 1)).length = n - (i + 1) := by rw [List.length_drop]; omega
  rw [if_pos hgood]
  obtain ⟨hg1, hg2⟩ := hgood
  have hg1 : nb = true := hg1
  subst hg1
  rw [hlD] at hg2
  have hci : ¬ c = i + 1 := by omega
  have hG := fun w' (hb : Below w.heap.size w w') => hG w' hb (some ⟨g, o + (i + 1) * 2, none⟩) (c - (i + 1)) (.inr ⟨rfl, rfl⟩)
  rw [ixI_hit (by rw [hlD]; omega)] at hG
  generalize ixT 62 (m.drop (i + 1)) = sh at *
  have hED := (hcells.drop (i + 1)).take sh
  have hEl : ((m.drop (i + 1)).take sh).length = sh := by rw [List.length_take]; omega
  have hEv : (vals ((m.drop (i + 1)).take sh)).length ≤ 10000000 := by have := vals_take (m.drop (i + 1)) sh; have := vals_drop m (i + 1); omega
  have hET : ∀ t ∈ (m.drop (i + 1)).take sh, t.text.size ≤ 1000000 := fun t ht => hT t (List.mem_of_mem_drop (List.mem_of_mem_take ht))
  generalize (m.drop (i + 1)).take sh = E at *
  have hCs : sh < c - (i + 1) := by omega
  have hn9 : sh ≤ 10000000 := by omega
  have q1 : decide ((sh : Int) < 0) = false := decide_eq_false (by omega)
  have hnl : n - (i + 1) = sh + 1 := by omega
  rw [hnl] at hG
  have q2 : ((sh : Int) != ((sh + 1 : Nat) : Int) - 1) = false := by rw [bne_eq_false_iff_eq]; omega
  have HI := Lib.hid hI
  have HN := Lib.hid hN
  have HG := Lib.hid hG
  clear hI hN hG hlD hl hx hg2 hv hT hm hcells
  by_cases h0 : sh = 0
  · subst h0
    obtain rfl : E = [] := List.eq_nil_of_length_eq_zero hEl
    have hS := fun w' (hb : Below w.heap.size w w') => spec_any (some ⟨g, o + (i + 1) * 2, none⟩) 0 (c - (i + 1)) [] w' TSl.nilS (by omega) (by simp [vals]) (fun t ht => by cases ht)
    rw [route_no (fun t r e => by cases e)]
    generalize specP [] = P at *
    obtain ⟨⟨l1, l2, l3⟩, b⟩ := P
    have HS := Lib.hid hS
    have HC0 : Hid (∀ w', Below w.heap.size w w' → True) := fun _ _ => trivial
    have HC1 := HC0
    have H6 := HS
    have HK := HS
    clear hS hED hEl hEv hET
    go_enter Tryz.func28, Tryz.ntmps28
    go_wp2_with (first
      | (go_at_call 47; (first | (with_reducible refine (HI.out _ tb).mono ?_) | (with_reducible refine (HG.out _ tb).mono ?_) | (with_reducible refine (HK.out _ tb).mono ?_)); rintro e w1 ⟨rfl, hb1⟩; have kk := blkKept hb1 kk; have tb := tb.trans (hb1.mono tb.size); have c0 := HC0.out _ tb; have c1 := HC1.out _ tb)
      | (go_at_call 50; (with_reducible refine (HN.out _ tb).mono ?_); rintro e w2 ⟨rfl, hb2⟩; have kk := blkKept hb2 kk; have tb := tb.trans (hb2.mono tb.size); have c0 := HC0.out _ tb; have c1 := HC1.out _ tb)
      | (go_at_call 46; (with_reducible refine (H6.out _).mono ?_); rintro e w3 ⟨rfl, hb3⟩; have kk := blkKept hb3 kk; have tb := tb.trans (hb3.mono tb.size))
      | (go_at_call 49; (with_reducible refine (HS.out _ tb).mono ?_); rintro e w5 ⟨rfl, hb5⟩; have kk := blkKept hb5 kk; have tb := tb.trans (hb5.mono tb.size); have hw5 := lt_of_block kk; have y0 := Lib.cell_of_heap kk 0; have f0 := fun j => frozen_of (j := j) kk; have y1 := Lib.cell_of_heap kk 1; have y2 := Lib.cell_of_heap kk 2; have kk2 : (w5.alloc (.cells #[.string ⟨nl.toArray⟩, .string ⟨l2.toArray⟩, .string ⟨l3.toArray⟩] 34)).heap[w.heap.size]? = some (.cells #[.string ⟨#[]⟩, .string ⟨#[]⟩, .string ⟨#[]⟩] 34 (0, 0)) := blkKept ((Below.refl w5.heap.size w5).alloc (Nat.le_refl _) _) kk; have hne : ¬ w.heap.size = w5.heap.size := Nat.ne_of_lt hw5; have hne2 : ¬ w5.heap.size = w.heap.size := Nat.ne_of_gt hw5; have e0 := Lib.cell_of_heap kk2 0; have e1 := Lib.cell_of_heap kk2 1; have e2 := Lib.cell_of_heap kk2 2; have fr := fun j => frozen_of (j := j) kk2; obtain ⟨⟨d1, d2⟩, ⟨d3, d4⟩⟩ := after_st (x := .string ⟨nl.toArray⟩) (y := .string ⟨l2.toArray⟩) (.cells #[.string ⟨nl.toArray⟩, .string ⟨l2.toArray⟩, .string ⟨l3.toArray⟩] 34) kk)
      )
    all_goals refine bodyPost_ret (v := .tuple #[.agg #[.string ⟨nl.toArray⟩, .string ⟨l2.toArray⟩, .string ⟨l3.toArray⟩], .bool b]) (by simp [results, Tryz.results28, go_sem, *]) rfl ?_
    all_goals exact ⟨rfl, three_alloc tb (Nat.le_refl _) _ _ _ _⟩
  · have h0' : 0 < sh := by omega
    have q4 : decide ((0 : Int) < (sh : Int)) = true := decide_eq_true (by omega)
    obtain ⟨t, r, rfl⟩ : ∃ t r, E = t :: r := by
      cases E with
      | nil => simp at hEl; omega
      | cons t r => exact ⟨t, r, rfl⟩
    obtain ⟨c0, c1⟩ := hED 0 (by simp)
    rw [Nat.zero_mul, Nat.add_zero] at c0 c1
    have c0 : w.cell? ⟨g, o + (i + 1) * 2, none⟩ = some (.int .i64 t.kind) := c0
    have c1 : w.cell? ⟨g, o + (i + 1) * 2 + 1, none⟩ = some (.string t.text) := c1
    have HC0 : Hid (∀ w', Below w.heap.size w w' → w'.cell? ⟨g, o + (i + 1) * 2, none⟩ = some (.int .i64 t.kind)) := fun w' hb => laterW hb c0
    have HC1 : Hid (∀ w', Below w.heap.size w w' → w'.cell? ⟨g, o + (i + 1) * 2 + 1, none⟩ = some (.string t.text)) := fun w' hb => laterW hb c1
    have h6 := fun w => is64 t.kind t.text w
    have ht' : isT 64 ⟨t.kind, t.text⟩ = isT 64 t := rfl
    rw [ht'] at h6
    clear c0 c1 ht' h0
    cases ht : isT 64 t with
    | false =>
      rw [ht] at h6
      rw [route_no (fun t' r' e => by injection e with e1 e2; rw [← e1]; exact ht)]
      have hS := fun w' (hb : Below w.heap.size w w') => spec_any (some ⟨g, o + (i + 1) * 2, none⟩) sh (c - (i + 1)) (t :: r) w' (TSl.sub (by omega) (hED.later hb) hEl) hn9 (by omega) hET
      generalize specP (t :: r) = P at *
      obtain ⟨⟨l1, l2, l3⟩, b⟩ := P
      have HS := Lib.hid hS
      have H6 := Lib.hid h6
      have HK := HS
      clear hS hED hEl hEv hET h6 ht
      go_enter Tryz.func28, Tryz.ntmps28
      go_wp2_with (first
        | (go_at_call 47; (first | (with_reducible refine (HI.out _ tb).mono ?_) | (with_reducible refine (HG.out _ tb).mono ?_) | (with_reducible refine (HK.out _ tb).mono ?_)); rintro e w1 ⟨rfl, hb1⟩; have kk := blkKept hb1 kk; have tb := tb.trans (hb1.mono tb.size); have c0 := HC0.out _ tb; have c1 := HC1.out _ tb)
        | (go_at_call 50; (with_reducible refine (HN.out _ tb).mono ?_); rintro e w2 ⟨rfl, hb2⟩; have kk := blkKept hb2 kk; have tb := tb.trans (hb2.mono tb.size); have c0 := HC0.out _ tb; have c1 := HC1.out _ tb)
        | (go_at_call 46; (with_reducible refine (H6.out _).mono ?_); rintro e w3 ⟨rfl, hb3⟩; have kk := blkKept hb3 kk; have tb := tb.trans (hb3.mono tb.size))
        | (go_at_call 49; (with_reducible refine (HS.out _ tb).mono ?_); rintro e w5 ⟨rfl, hb5⟩; have kk := blkKept hb5 kk; have tb := tb.trans (hb5.mono tb.size); have hw5 := lt_of_block kk; have y0 := Lib.cell_of_heap kk 0; have f0 := fun j => frozen_of (j := j) kk; have y1 := Lib.cell_of_heap kk 1; have y2 := Lib.cell_of_heap kk 2; have kk2 : (w5.alloc (.cells #[.string ⟨nl.toArray⟩, .string ⟨l2.toArray⟩, .string ⟨l3.toArray⟩] 34)).heap[w.heap.size]? = some (.cells #[.string ⟨#[]⟩, .string ⟨#[]⟩, .string ⟨#[]⟩] 34 (0, 0)) := blkKept ((Below.refl w5.heap.size w5).alloc (Nat.le_refl _) _) kk; have hne : ¬ w.heap.size = w5.heap.size := Nat.ne_of_lt hw5; have hne2 : ¬ w5.heap.size = w.heap.size := Nat.ne_of_gt hw5; have e0 := Lib.cell_of_heap kk2 0; have e1 := Lib.cell_of_heap kk2 1; have e2 := Lib.cell_of_heap kk2 2; have fr := fun j => frozen_of (j := j) kk2; obtain ⟨⟨d1, d2⟩, ⟨d3, d4⟩⟩ := after_st (x := .string ⟨nl.toArray⟩) (y := .string ⟨l2.toArray⟩) (.cells #[.string ⟨nl.toArray⟩, .string ⟨l2.toArray⟩, .string ⟨l3.toArray⟩] 34) kk)
        )
      all_goals refine bodyPost_ret (v := .tuple #[.agg #[.string ⟨nl.toArray⟩, .string ⟨l2.toArray⟩, .string ⟨l3.toArray⟩], .bool b]) (by simp [results, Tryz.results28, go_sem, *]) rfl ?_
      all_goals exact ⟨rfl, three_alloc tb (Nat.le_refl _) _ _ _ _⟩
    | true =>
      rw [ht] at h6
      rw [route_yes ht]
      have hK := fun w' (hb : Below w.heap.size w w') => ix_cn (some ⟨g, o + (i + 1) * 2, none⟩) sh (c - (i + 1)) (t :: r) w' (TSl.sub (by omega) (hED.later hb) hEl) hn9
      by_cases hj : ixT 58 (t :: r) < (t :: r).length
      · rw [if_pos hj]
        rw [ixI_hit hj] at hK
        rw [hEl] at hj
        generalize ixT 58 (t :: r) = j at *
        have hS := fun w' (hb : Below w.heap.size w w') => spec_any (some ⟨g, o + (i + 1) * 2 + (j + 1) * 2, none⟩) (sh - (j + 1)) (c - (i + 1) - (j + 1)) ((t :: r).drop (j + 1)) w' (TSl.cut hEl hCs hED hb (by omega)) (by omega) (by have := vals_drop (t :: r) (j + 1); omega) (fun x hx => hET x (List.mem_of_mem_drop hx))
        generalize specP ((t :: r).drop (j + 1)) = P at *
        obtain ⟨⟨l1, l2, l3⟩, b⟩ := P
        have HS := Lib.hid hS
        have H6 := Lib.hid h6
        have HK := Lib.hid hK
        have hnc : ¬ c - (i + 1) = j + 1 := by omega
        clear hS hED hEl hEv hET h6 ht
        go_enter Tryz.func28, Tryz.ntmps28
        go_wp2_with (first
          | (go_at_call 47; (first | (with_reducible refine (HI.out _ tb).mono ?_) | (with_reducible refine (HG.out _ tb).mono ?_) | (with_reducible refine (HK.out _ tb).mono ?_)); rintro e w1 ⟨rfl, hb1⟩; have kk := blkKept hb1 kk; have tb := tb.trans (hb1.mono tb.size); have c0 := HC0.out _ tb; have c1 := HC1.out _ tb)
          | (go_at_call 50; (with_reducible refine (HN.out _ tb).mono ?_); rintro e w2 ⟨rfl, hb2⟩; have kk := blkKept hb2 kk; have tb := tb.trans (hb2.mono tb.size); have c0 := HC0.out _ tb; have c1 := HC1.out _ tb)
          | (go_at_call 46; (with_reducible refine (H6.out _).mono ?_); rintro e w3 ⟨rfl, hb3⟩; have kk := blkKept hb3 kk; have tb := tb.trans (hb3.mono tb.size))
          | (go_at_call 49; (with_reducible refine (HS.out _ tb).mono ?_); rintro e w5 ⟨rfl, hb5⟩; have kk := blkKept hb5 kk; have tb := tb.trans (hb5.mono tb.size); have hw5 := lt_of_block kk; have y0 := Lib.cell_of_heap kk 0; have f0 := fun j => frozen_of (j := j) kk; have y1 := Lib.cell_of_heap kk 1; have y2 := Lib.cell_of_heap kk 2; have kk2 : (w5.alloc (.cells #[.string ⟨nl.toArray⟩, .string ⟨l2.toArray⟩, .string ⟨l3.toArray⟩] 34)).heap[w.heap.size]? = some (.cells #[.string ⟨#[]⟩, .string ⟨#[]⟩, .string ⟨#[]⟩] 34 (0, 0)) := blkKept ((Below.refl w5.heap.size w5).alloc (Nat.le_refl _) _) kk; have hne : ¬ w.heap.size = w5.heap.size := Nat.ne_of_lt hw5; have hne2 : ¬ w5.heap.size = w.heap.size := Nat.ne_of_gt hw5; have e0 := Lib.cell_of_heap kk2 0; have e1 := Lib.cell_of_heap kk2 1; have e2 := Lib.cell_of_heap kk2 2; have fr := fun j => frozen_of (j := j) kk2; obtain ⟨⟨d1, d2⟩, ⟨d3, d4⟩⟩ := after_st (x := .string ⟨nl.toArray⟩) (y := .string ⟨l2.toArray⟩) (.cells #[.string ⟨nl.toArray⟩, .string ⟨l2.toArray⟩, .string ⟨l3.toArray⟩] 34) kk)
          )
        all_goals refine bodyPost_ret (v := .tuple #[.agg #[.string ⟨nl.toArray⟩, .string ⟨l2.toArray⟩, .string ⟨l3.toArray⟩], .bool b]) (by simp [results, Tryz.results28, go_sem, *]) rfl ?_
        all_goals exact ⟨rfl, three_alloc tb (Nat.le_refl _) _ _ _ _⟩
      · rw [if_neg hj]
        rw [ixI_miss hj] at hK
        have hS := fun w' (hb : Below w.heap.size w w') => spec_any (some ⟨g, o + (i + 1) * 2, none⟩) sh (c - (i + 1)) (t :: r) w' (TSl.sub (by omega) (hED.later hb) hEl) hn9 (by omega) hET
        generalize specP (t :: r) = P at *
        obtain ⟨⟨l1, l2, l3⟩, b⟩ := P
        have HS := Lib.hid hS
        have H6 := Lib.hid h6
        have HK := Lib.hid hK
        clear hS hED hEl hEv hET h6 ht
        go_enter Tryz.func28, Tryz.ntmps28
        go_wp2_with (first
          | (go_at_call 47; (first | (with_reducible refine (HI.out _ tb).mono ?_) | (with_reducible refine (HG.out _ tb).mono ?_) | (with_reducible refine (HK.out _ tb).mono ?_)); rintro e w1 ⟨rfl, hb1⟩; have kk := blkKept hb1 kk; have tb := tb.trans (hb1.mono tb.size); have c0 := HC0.out _ tb; have c1 := HC1.out _ tb)
          | (go_at_call 50; (with_reducible refine (HN.out _ tb).mono ?_); rintro e w2 ⟨rfl, hb2⟩; have kk := blkKept hb2 kk; have tb := tb.trans (hb2.mono tb.size); have c0 := HC0.out _ tb; have c1 := HC1.out _ tb)
          | (go_at_call 46; (with_reducible refine (H6.out _).mono ?_); rintro e w3 ⟨rfl, hb3⟩; have kk := blkKept hb3 kk; have tb := tb.trans (hb3.mono tb.size))
          | (go_at_call 49; (with_reducible refine (HS.out _ tb).mono ?_); rintro e w5 ⟨rfl, hb5⟩; have kk := blkKept hb5 kk; have tb := tb.trans (hb5.mono tb.size); have hw5 := lt_of_block kk; have y0 := Lib.cell_of_heap kk 0; have f0 := fun j => frozen_of (j := j) kk; have y1 := Lib.cell_of_heap kk 1; have y2 := Lib.cell_of_heap kk 2; have kk2 : (w5.alloc (.cells #[.string ⟨nl.toArray⟩, .string ⟨l2.toArray⟩, .string ⟨l3.toArray⟩] 34)).heap[w.heap.size]? = some (.cells #[.string ⟨#[]⟩, .string ⟨#[]⟩, .string ⟨#[]⟩] 34 (0, 0)) := blkKept ((Below.refl w5.heap.size w5).alloc (Nat.le_refl _) _) kk; have hne : ¬ w.heap.size = w5.heap.size := Nat.ne_of_lt hw5; have hne2 : ¬ w5.heap.size = w.heap.size := Nat.ne_of_gt hw5; have e0 := Lib.cell_of_heap kk2 0; have e1 := Lib.cell_of_heap kk2 1; have e2 := Lib.cell_of_heap kk2 2; have fr := fun j => frozen_of (j := j) kk2; obtain ⟨⟨d1, d2⟩, ⟨d3, d4⟩⟩ := after_st (x := .string ⟨nl.toArray⟩) (y := .string ⟨l2.toArray⟩) (.cells #[.string ⟨nl.toArray⟩, .string ⟨l2.toArray⟩, .string ⟨l3.toArray⟩] 34) kk)
          )
        all_goals refine bodyPost_ret (v := .tuple #[.agg #[.string ⟨nl.toArray⟩, .string ⟨l2.toArray⟩, .string ⟨l3.toArray⟩], .bool b]) (by simp [results, Tryz.results28, go_sem, *]) rfl ?_
        all_goals exact ⟨rfl, three_alloc tb (Nat.le_refl _) _ _ _ _⟩
theorem one_any (p : Option Addr) (n c : Nat) (m : List El) (w : World) (h : TSl w p n c m) (hn : n ≤ 10000000) (hv : (vals m).length ≤ 10000000) (hT : ∀ t ∈ m, t.text.size ≤ 1000000) : Calls Tryz.prog 28 #[.slice p n c] w (PairA (oneP m) w) := by
  by_cases hx : ixT 60 m < m.length
  · by_cases hg : (namP (m.take (ixT 60 m))).2 = true ∧ ixT 62 (m.drop (ixT 60 m + 1)) + 1 = (m.drop (ixT 60 m + 1)).length
    · exact one_e0 p n c m w h hn hx hv hT hg
    · exact one_bad p n c m w h hn hx hv hT hg
  · exact one_no p n c m w h hn hx (by omega) hT
end Go.Proofs.YtilccofdphohiaaGreatDoor
