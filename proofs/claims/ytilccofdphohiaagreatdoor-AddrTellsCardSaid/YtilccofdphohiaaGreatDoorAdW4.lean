/- Walks: addr: pieces. Walks: addr: pieces. Walks: addr: Parse. Walks: addr: Parse. -/
import Derived.Test.YtilccofdphohiaaGreatDoorAdW3
import Derived.Test.YtilccofdphohiaaGreatDoorAdPl
import Derived.Test.YtilccofdphohiaaGreatDoorTk5
import Derived.Deep.LoopGhost
namespace Go.Proofs.YtilccofdphohiaaGreatDoor
open Go.RowKit Pk Ad Tk Fo

abbrev Sl3 := Option Addr × Nat × Nat
def RelP (W : World) (xs : List Sl3) (L : List (List El)) : Prop := xs.length = L.length ∧ ∀ i (h : i < xs.length) (h' : i < L.length), TSl W xs[i].1 xs[i].2.1 xs[i].2.2 L[i]
theorem RelP.nil {W : World} : RelP W [] [] := ⟨rfl, fun i h => absurd h (Nat.not_lt_zero i)⟩
theorem RelP.snoc {W : World} {xs : List Sl3} {L : List (List El)} {x : Sl3} {l : List El} (h : RelP W xs L) (hx : TSl W x.1 x.2.1 x.2.2 l) : RelP W (xs ++ [x]) (L ++ [l]) := by
  refine ⟨by rw [List.length_append, List.length_append, h.1]; rfl, fun i hi hi' => ?_⟩
  by_cases hlt : i < xs.length
  · rw [List.getElem_append_left hlt, List.getElem_append_left (by rw [← h.1]; exact hlt)]
    exact h.2 i hlt _
  · have e : i = xs.length := by rw [List.length_append] at hi; simp at hi; omega
    subst e
    have e2 := h.1
    rw [List.getElem_append_right (Nat.le_refl _), List.getElem_append_right (by omega)]
    simp [e2]
    exact hx
theorem RelP.later {W W' : World} {xs : List Sl3} {L : List (List El)} (h : RelP W xs L) (hb : Below W.heap.size W W') : RelP W' xs L := ⟨h.1, fun i hi hi' => (h.2 i hi hi').later hb⟩
def PcsIs (L : List (List El)) (w : World) (e : Ending) (w' : World) : Prop := ∃ v xs, e = .returned v ∧ ownsG slLay w' w.heap.size 38 v xs ∧ RelP w' xs L ∧ Below w.heap.size w w'
theorem slT : GSl slLay 24 Tryz.prog 47 38 := GSl.of Tryz.underlying47 (by kernel_rfl)
def five (b : UInt8) : Bool := b == 62 || b == 60 || b == 58 || b == 44 || b == 59
theorem is_five (b : UInt8) (hb : five b = true) (k : Nat) (T : ByteArray) (w : World) : Calls Tryz.prog 46 #[.agg #[.int .i64 k, .string T], .string ⟨#[b]⟩] w fun e w' => e = .returned (.bool (isT b ⟨k, T⟩)) ∧ Below w.heap.size w w' := by
  unfold five at hb
  rw [Bool.or_eq_true, Bool.or_eq_true, Bool.or_eq_true, Bool.or_eq_true, beq_iff_eq, beq_iff_eq, beq_iff_eq, beq_iff_eq, beq_iff_eq] at hb
  rcases hb with (((rfl | rfl) | rfl) | rfl) | rfl
  · exact is62 k T w
  · exact is60 k T w
  · exact is58 k T w
  · exact is44 k T w
  · exact is59 k T w
end Go.Proofs.YtilccofdphohiaaGreatDoor
namespace Go.Proofs.YtilccofdphohiaaGreatDoor
open Go.RowKit Pk Ad Tk Fo

/-- as TSl, and nil where there is no block -/
def TSk (W : World) (p : Option Addr) (n c : Nat) (m : List El) : Prop := m.length = n ∧ n ≤ c ∧ ((p = none ∧ n = 0 ∧ c = 0) ∨ ∃ g o, p = some ⟨g, o, none⟩ ∧ tokAt W g o m)
theorem TSk.sl {W : World} {p : Option Addr} {n c : Nat} {m : List El} (h : TSk W p n c m) : TSl W p n c m := by
  obtain ⟨h1, h2, h3⟩ := h
  refine ⟨h1, h2, ?_⟩
  rcases h3 with ⟨-, h4, -⟩ | h3
  · exact .inl (List.eq_nil_of_length_eq_zero (by omega))
  · exact .inr h3
theorem ownsE.tsk {W : World} {B : Nat} {e : TypeId} {v : Value} {m : List El} (h : ownsE W B e v m) : ∃ p c, v = .slice p m.length c ∧ TSk W p m.length c m := by
  have hs := h.sees (Nat.le_refl _)
  obtain ⟨p, c, h1, h2, h3⟩ := hs.form
  rcases h.2 with ⟨hn, hl⟩ | ⟨g, cap, cur, hv, -⟩
  · exact ⟨none, 0, by rw [hn, hl], rfl, by omega, .inl ⟨rfl, hl, rfl⟩⟩
  · rcases h3 with h4 | ⟨g', h4, -, h6⟩
    · subst h4
      rw [hv] at h1
      injection h1 with h1 h7 h8
      subst h1 h8
      exact ⟨_, _, hv, rfl, by simp, .inr ⟨g, 0, rfl, fun j hj => absurd hj (Nat.not_lt_zero j)⟩⟩
    · refine ⟨p, c, h1, rfl, h2, .inr ⟨g', 0, h4, fun j hj => ?_⟩⟩
      rw [Nat.zero_add]; exact h6 j hj
theorem TSk.rest {W : World} {g o n c k c' : Nat} {q : Option Addr} {m : List El} (hl : m.length = n) (hc : n ≤ c) (hk : k ≤ n) (h : tokAt W g o m) (hq : (c = k ∧ c' = 0 ∧ q = some ⟨g, o, none⟩) ∨ (q = some ⟨g, o + k * 2, none⟩ ∧ c' = c - k)) : TSk W q (n - k) c' (m.drop k) := by
  have hd : (m.drop k).length = n - k := by rw [List.length_drop]; omega
  rcases hq with ⟨rfl, rfl, rfl⟩ | ⟨rfl, rfl⟩
  · exact ⟨hd, by omega, .inr ⟨g, o, rfl, fun j hj => by omega⟩⟩
  · exact ⟨hd, by omega, .inr ⟨g, o + k * 2, rfl, h.drop k⟩⟩
theorem TSl.mid {W : World} {g o n c f a c' : Nat} {q : Option Addr} {m : List El} (hl : m.length = n) (hc : n ≤ c) (hf : f ≤ a) (ha : a ≤ n) (h : tokAt W g o m) (hq : (c = f ∧ c' = 0) ∨ (q = some ⟨g, o + f * 2, none⟩ ∧ c' = c - f)) : TSl W q (a - f) c' ((m.take a).drop f) := by
  have hd : ((m.take a).drop f).length = a - f := by rw [List.length_drop, List.length_take]; omega
  rcases hq with ⟨rfl, rfl⟩ | ⟨rfl, rfl⟩
  · exact ⟨hd, by omega, .inl (List.eq_nil_of_length_eq_zero (by omega))⟩
  · exact TSl.sub (by omega) ((h.take a).drop f) hd
theorem bareE_len (m : List El) : (bareE m).length ≤ m.length := List.length_filter_le _ _
set_option maxHeartbeats 4000000 in
set_option maxRecDepth 100000 in
theorem pieces_any (s : ByteArray) (w : World) (hs : s.size ≤ 1000000) : Calls Tryz.prog 27 #[.string s] w (PcsIs (piecesL s.data.toList) w) := by
  obtain ⟨X, hX⟩ : ∃ X, X = piecesL s.data.toList := ⟨_, rfl⟩
  have hlen : (bareE (sc s.data.toList)).length ≤ 1000000 := by
    have h1 := bareE_len (sc s.data.toList)
    have h2 := sc_length _ s.data.toList (Nat.le_refl _)
    rw [dataL] at h2
    omega
  have hsl : (sc s.data.toList).length ≤ 1000000 := by
    have h2 := sc_length _ s.data.toList (Nat.le_refl _)
    rw [dataL] at h2
    omega
  have hst : Hid ([] ++ pcs false [] (bareE (sc s.data.toList)) = X) := hX.symm
  rw [← hX]
  clear hX
  have HSc := Lib.hid (scan_any s w (by omega))
  generalize sc s.data.toList = M0 at *
  have HB := Lib.hid (fun v w' (hM : seesE w' w'.heap.size 43 v M0) => bare_any v M0 w' hM (by omega))
  generalize bareE M0 = M at *
  go_enter Tryz.func27, Tryz.ntmps27
  go_wp2_with (first
    | (go_at_call 26; (with_reducible refine HSc.out.mono ?_); rintro e w1 ⟨v1, rfl, hown1, hb1⟩; have hsee := ownsE.sees hown1 (Nat.le_refl _))
    | (go_at_call 25; (with_reducible refine (HB.out _ _ hsee).mono ?_); rintro e w2 ⟨v2, rfl, hown2, hb2⟩))
  obtain ⟨p0, c0, rfl, hT0⟩ := ownsE.tsk hown2
  have hb02 := hb1.trans (hb2.mono hb1.size)
  have hw2 := hb02.size
  clear hsee hown1 hown2 HSc HB hb1 hb2
  go_loopg [3, 4] (M.length + 1) (fun g ov lv wr => ∃ (p : Option Addr) (n c : Nat) (m : List El) (xs : List Sl3) (L : List (List El)), lv = .slice p n c ∧ TSk w2 p n c m ∧ n + 1 ≤ g ∧ L.length + n ≤ 1000000 ∧ ownsG slLay wr w2.heap.size 38 ov xs ∧ RelP w2 xs L ∧ Below w2.heap.size w2 wr ∧ Hid (L ++ pcs false [] m = X))
  case atStart => exact ⟨p0, M.length, c0, M, [], [], rfl, hT0, Nat.le_refl _, by simpa using hlen, ownsG.nil _ _ _ _, RelP.nil, Below.refl _ _, hst⟩
  case round =>
    clear hst hT0 hlen
    obtain ⟨p, n, c, m, xs, L, rfl, hT, hng, hLn, hown, hR, hbel, hrel⟩ := hrel
    have hps := pc_start m
    have hnn : n ≤ 1000000 := by omega
    have HT := Lib.hid hT
    have HR := Lib.hid hR
    have hml : m.length = n := hT.1
    have hrel0 := hrel
    clear hT hR
    go_wp2_with fail
    go_step3
    go_wp2_with fail
    go_step3
    go_wp2_with fail
    go_loopg [5, 6, 7] n (fun g av fv iv wy => ∃ (a f : Nat) (b : Bool), a + g = n ∧ av = .int .i64 a ∧ fv = .int .i64 f ∧ iv = .bool b ∧ Hid (PcAt m a f b) ∧ Below w2.heap.size w2 wy ∧ ownsG slLay wy w2.heap.size 38 u3 xs)
    case atStart => exact ⟨0, 0, false, by omega, rfl, rfl, rfl, hps, hbel, hown⟩
    case round =>
      clear hps hbel hown
      obtain ⟨a, f, b, hag, rfl, rfl, rfl, hpc, hbel, hown⟩ := hrel
      have hsz := hbel.size
      by_cases hlt : a < n
      · have hlm : a < m.length := by omega
        obtain ⟨g, o, rfl, hcells⟩ : ∃ g o, p = some ⟨g, o, none⟩ ∧ tokAt w2 g o m := HT.out.sl.ne (by omega)
        obtain ⟨c0, c1⟩ := hcells a hlm
        have c0 := laterW (hbel.mono (Nat.le_refl _)) c0
        have c1 := laterW (hbel.mono (Nat.le_refl _)) c1
        have hI := fun x (hx : five x = true) w => is_five x hx m[a].kind m[a].text w
        have hin := fun (e : b = true) => pc_in (e ▸ hpc.out) hlm
        have hout := fun (e : b = false) => pc_out (e ▸ hpc.out) hlm
        have tb : Below w2.heap.size w2 (wr.alloc (.cells #[.int .i64 m[a].kind, .string m[a].text] 43)) := hbel.alloc hsz _
        have kk : (wr.alloc (.cells #[.int .i64 m[a].kind, .string m[a].text] 43)).heap[wr.heap.size]? = some (.cells #[.int .i64 m[a].kind, .string m[a].text] 43 (0, 0)) := heap_alloc_new wr _
        have hx0 := hrel0.out
        have e9 : ∀ x, isT x m[a] = isT x ⟨m[a].kind, m[a].text⟩ := fun x => rfl
        simp only [e9] at hin hout
        clear e9
        have hownA := ownsG.alloc hown (.cells #[.int .i64 m[a].kind, .string m[a].text] 43)
        have hnn2 : n ≤ 1000000 := hnn
        have HIN := Lib.hid hin
        have HOUT := Lib.hid hout
        have HI := Lib.hid hI
        have hpcL := hpc.out.1
        clear hin hout hI hpc
        generalize m[a].kind = k at *
        generalize m[a].text = T at *
        have k0 : (wr.alloc (.cells #[.int .i64 k, .string T] 43)).cell? ⟨wr.heap.size, 0, none⟩ = some (.int .i64 k) := by simp
        have k1 : (wr.alloc (.cells #[.int .i64 k, .string T] 43)).cell? ⟨wr.heap.size, 1, none⟩ = some (.string T) := by simp
        have z0 : Hid ((#[.int .i64 k, .string T] : Array Value)[0]? = some (.int .i64 k)) := rfl
        have z1 : Hid ((#[.int .i64 k, .string T] : Array Value)[1]? = some (.string T)) := rfl
        cases b with
        | true =>
          have hd := Lib.hid (HIN.out rfl)
          clear HIN HOUT
          go_wp2_with (go_at_call 46; (with_reducible refine (HI.out _ (by first | rfl | decide) _).mono ?_); rintro e w3 ⟨rfl, hb3⟩; have tb := tb.trans (hb3.mono tb.size); have hown3 := ownsG.below hownA hb3 (Nat.le_refl _))
          go_roundg (n - (a + 1))
          case rel => exact ⟨a + 1, f, _, by omega, by go_num, rfl, rfl, hd, tb, hown3⟩
          case measure => omega
        | false =>
          have hfa : f ≤ a := hpcL
          have hnc := HT.out.2.1
          cases h60 : isT 60 ⟨k, T⟩ with
          | true =>
            have hd := Lib.hid ((HOUT.out rfl).1 h60)
            clear HIN HOUT
            go_wp2_with (go_at_call 46; (with_reducible refine (HI.out _ (by first | rfl | decide) _).mono ?_); rintro e w3 ⟨rfl, hb3⟩; have tb := tb.trans (hb3.mono tb.size); have hownA := ownsG.below hownA hb3 (Nat.le_refl _); have kk := (hb3.block _ (lt_of_block kk)).trans kk; have k0 := (Lib.cell_of_heap kk 0).trans z0.out; have k1 := (Lib.cell_of_heap kk 1).trans z1.out)
            go_roundg (n - (a + 1))
            case rel => exact ⟨a + 1, f, _, by omega, by go_num, by first | rfl | go_num, rfl, hd, tb, hownA⟩
            case measure => omega
          | false =>
            cases h58 : isT 58 ⟨k, T⟩ with
            | true =>
              have hd := Lib.hid ((HOUT.out rfl).2.1 h60 h58)
              clear HIN HOUT
              go_wp2_with (go_at_call 46; (with_reducible refine (HI.out _ (by first | rfl | decide) _).mono ?_); rintro e w3 ⟨rfl, hb3⟩; have tb := tb.trans (hb3.mono tb.size); have hownA := ownsG.below hownA hb3 (Nat.le_refl _); have kk := (hb3.block _ (lt_of_block kk)).trans kk; have k0 := (Lib.cell_of_heap kk 0).trans z0.out; have k1 := (Lib.cell_of_heap kk 1).trans z1.out)
              go_roundg (n - (a + 1))
              case rel => exact ⟨a + 1, a + 1, _, by omega, by go_num, by first | rfl | go_num, rfl, hd, tb, hownA⟩
              case measure => omega
            | false =>
              cases h44 : isT 44 ⟨k, T⟩ with
              | true =>
                have hpc2 := (HOUT.out rfl).2.2.1 h60 h58 (by rw [h44, Bool.true_or])
                rw [hpc2] at hx0
                have hx1 : Hid ((L ++ [(m.take a).drop f]) ++ pcs false [] (m.drop (a + 1)) = X) := by show _ = _; rw [← hx0]; simp
                have hpost := TSl.mid hml hnc hfa (Nat.le_of_lt hlt) hcells (.inr ⟨rfl, rfl⟩)
                have hnx := fun q c' hq => TSk.rest (q := q) (c' := c') hml hnc hlt hcells hq
                have HP := Lib.hid hpost
                have HNX := Lib.hid hnx
                have e1 : ((a : Int) == (n : Int)) = false := beq_eq_false_iff_ne.2 (by omega)
                clear HIN HOUT hx0 hpc2 hpost hnx hcells
                go_wp2_with (first
                  | (go_at_call 46; (with_reducible refine (HI.out _ (by first | rfl | decide) _).mono ?_); rintro e w3 ⟨rfl, hb3⟩; have tb := tb.trans (hb3.mono tb.size); have hownA := ownsG.below hownA hb3 (Nat.le_refl _); have kk := (hb3.block _ (lt_of_block kk)).trans kk; have k0 := (Lib.cell_of_heap kk 0).trans z0.out; have k1 := (Lib.cell_of_heap kk 1).trans z1.out)
                  | (at_builtin; refine append_g _ rfl (.tmp 40) (.tmp 45) slT rfl w2.heap.size _ _ rfl (ownsG.alloc hownA _) ⟨_, 0, none⟩ [((some ⟨g, o + f * 2, none⟩, a - f, c - f) : Sl3)] 1 1 rfl rfl (fun j u h => cells_new _ [_] _ j u h) (by have := HR.out.1; rw [this]; omega) (by have := HR.out.1; rw [this]; omega) (by first | exact tb.size | (simp; have := tb.size; omega)) ?_; intro v6 w6 hown6 hg6; have hb6 := Below_grownG (tb.alloc tb.size _) (ownsG.alloc hownA _) hg6 (by first | exact tb.size | (simp; have := tb.size; omega)); clear hg6))
                all_goals go_roundg (n - (a + 1) + 1)
                all_goals first | omega | exact ⟨some ⟨g, o + (a + 1) * 2, none⟩, n - (a + 1), c - (a + 1), m.drop (a + 1), _, _, rfl, HNX.out _ _ (.inr ⟨rfl, rfl⟩), Nat.le_refl _, by rw [List.length_append, List.length_singleton]; omega, hown6, RelP.snoc (x := (some ⟨g, o + f * 2, none⟩, a - f, c - f)) HR.out HP.out, hb6, hx1⟩ | exact ⟨some ⟨g, o, none⟩, n - (a + 1), 0, m.drop (a + 1), _, _, rfl, HNX.out _ _ (.inl ⟨by omega, rfl, rfl⟩), Nat.le_refl _, by rw [List.length_append, List.length_singleton]; omega, hown6, RelP.snoc (x := (some ⟨g, o + f * 2, none⟩, a - f, c - f)) HR.out HP.out, hb6, hx1⟩
              | false =>
                cases h59 : isT 59 ⟨k, T⟩ with
                | true =>
                  have hpc2 := (HOUT.out rfl).2.2.1 h60 h58 (by rw [h59, Bool.or_true])
                  rw [hpc2] at hx0
                  have hx1 : Hid ((L ++ [(m.take a).drop f]) ++ pcs false [] (m.drop (a + 1)) = X) := by show _ = _; rw [← hx0]; simp
                  have hpost := TSl.mid hml hnc hfa (Nat.le_of_lt hlt) hcells (.inr ⟨rfl, rfl⟩)
                  have hnx := fun q c' hq => TSk.rest (q := q) (c' := c') hml hnc hlt hcells hq
                  have HP := Lib.hid hpost
                  have HNX := Lib.hid hnx
                  have e1 : ((a : Int) == (n : Int)) = false := beq_eq_false_iff_ne.2 (by omega)
                  clear HIN HOUT hx0 hpc2 hpost hnx hcells
                  go_wp2_with (first
                    | (go_at_call 46; (with_reducible refine (HI.out _ (by first | rfl | decide) _).mono ?_); rintro e w3 ⟨rfl, hb3⟩; have tb := tb.trans (hb3.mono tb.size); have hownA := ownsG.below hownA hb3 (Nat.le_refl _); have kk := (hb3.block _ (lt_of_block kk)).trans kk; have k0 := (Lib.cell_of_heap kk 0).trans z0.out; have k1 := (Lib.cell_of_heap kk 1).trans z1.out)
                    | (at_builtin; refine append_g _ rfl (.tmp 40) (.tmp 45) slT rfl w2.heap.size _ _ rfl (ownsG.alloc hownA _) ⟨_, 0, none⟩ [((some ⟨g, o + f * 2, none⟩, a - f, c - f) : Sl3)] 1 1 rfl rfl (fun j u h => cells_new _ [_] _ j u h) (by have := HR.out.1; rw [this]; omega) (by have := HR.out.1; rw [this]; omega) (by first | exact tb.size | (simp; have := tb.size; omega)) ?_; intro v6 w6 hown6 hg6; have hb6 := Below_grownG (tb.alloc tb.size _) (ownsG.alloc hownA _) hg6 (by first | exact tb.size | (simp; have := tb.size; omega)); clear hg6))
                  all_goals go_roundg (n - (a + 1) + 1)
                  all_goals first | omega | exact ⟨some ⟨g, o + (a + 1) * 2, none⟩, n - (a + 1), c - (a + 1), m.drop (a + 1), _, _, rfl, HNX.out _ _ (.inr ⟨rfl, rfl⟩), Nat.le_refl _, by rw [List.length_append, List.length_singleton]; omega, hown6, RelP.snoc (x := (some ⟨g, o + f * 2, none⟩, a - f, c - f)) HR.out HP.out, hb6, hx1⟩ | exact ⟨some ⟨g, o, none⟩, n - (a + 1), 0, m.drop (a + 1), _, _, rfl, HNX.out _ _ (.inl ⟨by omega, rfl, rfl⟩), Nat.le_refl _, by rw [List.length_append, List.length_singleton]; omega, hown6, RelP.snoc (x := (some ⟨g, o + f * 2, none⟩, a - f, c - f)) HR.out HP.out, hb6, hx1⟩
                | false =>
                  have hd := Lib.hid ((HOUT.out rfl).2.2.2 h60 h58 (by rw [h44, h59]; rfl))
                  clear HIN HOUT
                  go_wp2_with (go_at_call 46; (with_reducible refine (HI.out _ (by first | rfl | decide) _).mono ?_); rintro e w3 ⟨rfl, hb3⟩; have tb := tb.trans (hb3.mono tb.size); have hownA := ownsG.below hownA hb3 (Nat.le_refl _); have kk := (hb3.block _ (lt_of_block kk)).trans kk; have k0 := (Lib.cell_of_heap kk 0).trans z0.out; have k1 := (Lib.cell_of_heap kk 1).trans z1.out)
                  go_roundg (n - (a + 1))
                  case rel => exact ⟨a + 1, f, _, by omega, by go_num, by first | rfl | go_num, rfl, hd, tb, hownA⟩
                  case measure => omega
      · have hend := pc_end hpc.out (by omega)
        obtain ⟨hfa, ham, -⟩ := hpc.out
        have hx := hrel0.out
        rw [hend] at hx
        obtain rfl : a = n := by omega
        clear hpc hend
        have hnc := HT.out.2.1
        rcases HT.out.2.2 with ⟨rfl, hn0, hc0⟩ | ⟨g, o, rfl, hcells⟩
        · obtain rfl : f = 0 := by omega
          subst hn0 hc0
          go_wp2_with (at_builtin; refine append_g _ rfl (.tmp 40) (.tmp 45) slT rfl w2.heap.size _ _ rfl (ownsG.alloc hown _) ⟨_, 0, none⟩ [((none, 0, 0) : Sl3)] 1 1 rfl rfl (fun j u h => cells_new _ [_] _ j u h) (by have := HR.out.1; rw [this]; omega) (by have := HR.out.1; rw [this]; omega) (by first | exact hsz | (simp; omega)) ?_; intro v6 w6 hown6 hg6; have hb6 := Below_grownG (hbel.alloc hsz _) (ownsG.alloc hown _) hg6 (by first | exact hsz | (simp; omega)); clear hg6)
          all_goals simp only [Exit.noGoto_ret]
          all_goals go_wp2_with fail
          all_goals go_ret
          all_goals exact ⟨v6, _, rfl, hown6.base hw2, by rw [← hx]; exact (RelP.snoc (x := (none, 0, 0)) HR.out (⟨by simp, Nat.le_refl _, .inl (by simp)⟩)).later hb6, hb02.trans (hb6.mono hw2)⟩
        · by_cases hcf : c = f
          · subst hcf
            obtain rfl : a = c := by omega
            go_wp2_with (at_builtin; refine append_g _ rfl (.tmp 40) (.tmp 45) slT rfl w2.heap.size _ _ rfl (ownsG.alloc hown _) ⟨_, 0, none⟩ [((some ⟨g, o, none⟩, 0, 0) : Sl3)] 1 1 rfl rfl (fun j u h => cells_new _ [_] _ j u h) (by have := HR.out.1; rw [this]; omega) (by have := HR.out.1; rw [this]; omega) (by first | exact hsz | (simp; omega)) ?_; intro v6 w6 hown6 hg6; have hb6 := Below_grownG (hbel.alloc hsz _) (ownsG.alloc hown _) hg6 (by first | exact hsz | (simp; omega)); clear hg6)
            all_goals simp only [Exit.noGoto_ret]
            all_goals go_wp2_with fail
            all_goals go_ret
            all_goals exact ⟨v6, _, rfl, hown6.base hw2, by rw [← hx]; exact (RelP.snoc (x := (some ⟨g, o, none⟩, 0, 0)) HR.out (by have := TSl.mid (c' := 0) (q := some ⟨g, o, none⟩) hml hnc (Nat.le_refl _) (Nat.le_refl _) hcells (.inl ⟨rfl, rfl⟩); rw [Nat.sub_self] at this; exact this)).later hb6, hb02.trans (hb6.mono hw2)⟩
          · have hcf2 : f < c := by omega
            go_wp2_with (at_builtin; refine append_g _ rfl (.tmp 40) (.tmp 45) slT rfl w2.heap.size _ _ rfl (ownsG.alloc hown _) ⟨_, 0, none⟩ [((some ⟨g, o + f * 2, none⟩, a - f, c - f) : Sl3)] 1 1 rfl rfl (fun j u h => cells_new _ [_] _ j u h) (by have := HR.out.1; rw [this]; omega) (by have := HR.out.1; rw [this]; omega) (by first | exact hsz | (simp; omega)) ?_; intro v6 w6 hown6 hg6; have hb6 := Below_grownG (hbel.alloc hsz _) (ownsG.alloc hown _) hg6 (by first | exact hsz | (simp; omega)); clear hg6)
            all_goals simp only [Exit.noGoto_ret]
            all_goals go_wp2_with fail
            all_goals go_ret
            all_goals exact ⟨v6, _, rfl, hown6.base hw2, by rw [← hx]; exact (RelP.snoc (x := (some ⟨g, o + f * 2, none⟩, a - f, c - f)) HR.out (TSl.mid hml hnc hfa (Nat.le_refl _) hcells (.inr ⟨rfl, rfl⟩))).later hb6, hb02.trans (hb6.mono hw2)⟩
end Go.Proofs.YtilccofdphohiaaGreatDoor
namespace Go.Proofs.YtilccofdphohiaaGreatDoor
open Go.RowKit Pk Ad Tk Fo

def ParsIs (x : List Adr × Bool) (w : World) (e : Ending) (w' : World) : Prop := ∃ v xs, e = .returned (.tuple #[v, .bool x.2]) ∧ ownsG adLay w' w.heap.size 34 v xs ∧ xs.map AdB.lst = x.1 ∧ Below w.heap.size w w'
theorem adT : GSl adLay 48 Tryz.prog 23 34 := GSl.of Tryz.underlying23 (by kernel_rfl)
theorem sl_at : ∀ (xs : List Sl3) (j : Nat) (h : j < xs.length), (xs.flatMap slLay.enc)[j]? = some (.slice xs[j].1 xs[j].2.1 xs[j].2.2)
  | x :: r, 0, _ => rfl
  | x :: r, j + 1, h => by
    have := sl_at r j (by simpa using h)
    exact this
/-- a slice of slices in memory -/
theorem slForm {w : World} {B : Nat} {e : TypeId} {v : Value} {xs : List Sl3} (h : ownsG slLay w B e v xs) : ∃ p c, v = .slice p xs.length c ∧ xs.length ≤ c ∧ (xs = [] ∨ ∃ g, p = some ⟨g, 0, none⟩ ∧ ∀ j (hj : j < xs.length), w.cell? ⟨g, j, none⟩ = some (.slice xs[j].1 xs[j].2.1 xs[j].2.2)) := by
  rcases h.2 with ⟨h1, h2⟩ | ⟨g, cap, cur, h1, h2, h3, h4, h5, h6, h7⟩
  · exact ⟨none, 0, by rw [h1, h2], by omega, .inl (List.eq_nil_of_length_eq_zero h2)⟩
  · refine ⟨_, cap, h1, h4, .inr ⟨g, rfl, fun j hj => ?_⟩⟩
    have := World.ownsRow.cells h (g := g) (by rw [h1]; rfl) j _ (sl_at xs j hj)
    rw [Addr.add_lit, Nat.zero_add] at this
    exact this
end Go.Proofs.YtilccofdphohiaaGreatDoor
namespace Go.Proofs.YtilccofdphohiaaGreatDoor
open Go.RowKit Pk Ad Tk Fo

theorem cells_atA (w : World) (B : Nat) (hB : w.heap.size = B) (cs : List Value) (t : TypeId) : ∀ j u, cs[j]? = some u → (w.alloc (.cells cs.toArray t)).cell? ((⟨B, 0, none⟩ : Addr).add j) = some u := by
  subst hB; exact cells_new w cs t
set_option maxHeartbeats 4000000 in
set_option maxRecDepth 100000 in
theorem parse_any (s : ByteArray) (w : World) (hs : s.size ≤ 1000000) : Calls Tryz.prog 11 #[.string s] w (ParsIs (parseA s.data.toList) w) := by
  have hP := pieces_any s w hs
  have hle : ∀ L ∈ piecesL s.data.toList, L.length ≤ 1000000 ∧ (vals L).length ≤ 1000000 ∧ ∀ t ∈ L, t.text.size ≤ 1000000 := fun L hL => by
    obtain ⟨h1, h2, h3⟩ := piece_le hL
    rw [dataL] at h1 h2 h3
    exact ⟨by omega, by omega, fun t ht => by have := h3 t ht; omega⟩
  have hct : (piecesL s.data.toList).length ≤ 1000001 := by
    have := pieces_le (s := s.data.toList)
    rw [dataL] at this; omega
  have hpar : parseA s.data.toList = (goodL (piecesL s.data.toList), allL (piecesL s.data.toList)) := rfl
  rw [hpar]
  clear hpar
  generalize piecesL s.data.toList = L at *
  have hst : Hid (ParAt L 0 (([] : List AdB).map AdB.lst) true) := par_start L
  have HP := Lib.hid hP
  have HLE := Lib.hid hle
  clear hP hle
  go_enter Tryz.func11, Tryz.ntmps11
  go_wp2_with (go_at_call 27; (with_reducible refine HP.out.mono ?_); rintro e w1 ⟨v, xs, rfl, hown, hR, hb1⟩; obtain ⟨p, c, rfl, hc, hcs⟩ := slForm hown)
  have h1 := hb1.size
  have hxl := hR.1
  have hxn : xs.length ≤ 1000001 := by omega
  have HXL := Lib.hid hxl
  clear hown HP hxl
  have HR := Lib.hid hR
  have HC := Lib.hid hcs
  clear hR hcs
  go_loopg [4, 5, 13] xs.length (fun g ov av iv wr => ∃ (k : Nat) (b : Bool) (ys : List AdB), k + g = xs.length ∧ iv = .int .i64 k ∧ av = .bool b ∧ ys.length ≤ k ∧ ownsG adLay wr w1.heap.size 34 ov ys ∧ Below w1.heap.size w1 wr ∧ Hid (ParAt L k (ys.map AdB.lst) b))
  case atStart => exact ⟨0, true, [], by omega, by first | rfl | trivial, rfl, Nat.le_refl _, ownsG.nil _ _ _ _, Below.refl _ _, hst⟩
  case round =>
    clear hst
    obtain ⟨k, b, ys, hkg, rfl, rfl, hyk, hown, hbel, hrel⟩ := hrel
    have hsz := hbel.size
    by_cases hlt : k < xs.length
    · have hlL : k < L.length := by rw [← HXL.out]; exact hlt
      obtain ⟨gg, rfl, hcell⟩ : ∃ g, p = some ⟨g, 0, none⟩ ∧ ∀ j (hj : j < xs.length), w1.cell? ⟨g, j, none⟩ = some (.slice xs[j].1 xs[j].2.1 xs[j].2.2) := by
        rcases HC.out with h | h
        · rw [h] at hlt; simp at hlt
        · exact h
      have c0 := laterW (hbel.mono (Nat.le_refl _)) (hcell k hlt)
      have hT := HR.out.2 k hlt hlL
      obtain ⟨s1, s2, s3⟩ := par_step hrel.out hlL
      have hle := HLE.out L[k] (List.getElem_mem hlL)
      generalize L[k] = l at *
      generalize xs[k] = x at *
      obtain ⟨q, n, cc⟩ := x
      have hT : TSl w1 q n cc l := hT
      have c0 : wr.cell? ⟨gg, k, none⟩ = some (.slice q n cc) := c0
      have hln : l.length = n := hT.1
      by_cases h0 : n = 0
      · subst h0
        have hd := Lib.hid (s1 (List.eq_nil_of_length_eq_zero hln))
        clear s1 s2 s3 hT hle hcell hrel
        go_wp2_with fail
        go_roundg (xs.length - (k + 1))
        case rel => exact ⟨k + 1, b, ys, by omega, by go_num, rfl, by omega, hown, hbel, hd⟩
        case measure => omega
      · have hlne : l ≠ [] := fun e => h0 (by rw [← hln, e]; rfl)
        have hO : ∀ w', Below w1.heap.size w1 w' → Calls Tryz.prog 28 #[.slice q n cc] w' (PairA (oneP l) w') := fun w' hb => one_any q n cc l w' (hT.later hb) (by omega) (by omega) hle.2.2
        have t2 := s2 hlne
        have t3 := s3 hlne
        have e0 : ((n : Int) == 0) = false := beq_eq_false_iff_ne.2 (by omega)
        generalize oneP l = P at *
        obtain ⟨⟨l1, l2, l3⟩, ok⟩ := P
        have HO := Lib.hid (hO wr hbel)
        cases ok with
        | true =>
          have hd : Hid (ParAt L (k + 1) ((ys ++ [(⟨⟨l1.toArray⟩, ⟨l2.toArray⟩, ⟨l3.toArray⟩⟩ : AdB)]).map AdB.lst) b) := by
            have := t2 rfl
            rw [List.map_append]
            exact this
          clear s1 s2 s3 t2 t3 hT hle hcell hrel hO
          go_wp2_with (first
            | (go_at_call 28; (with_reducible refine HO.out.mono ?_); rintro e w3 ⟨rfl, hb3⟩; have tb := hbel.trans (hb3.mono hsz); have hown3 := ownsG.below hown hb3 (Nat.le_refl _); have kk := heap_alloc_new w3 (.cells #[.string ⟨l1.toArray⟩, .string ⟨l2.toArray⟩, .string ⟨l3.toArray⟩] 34); have y0 := Lib.cell_of_heap kk 0; have y1 := Lib.cell_of_heap kk 1; have y2 := Lib.cell_of_heap kk 2)
            | (at_builtin; go_loud (refine append_g _ rfl (.tmp 26) (.tmp 28) adT rfl w1.heap.size _ _ rfl (ownsG.alloc (ownsG.alloc hown3 _) _) ⟨_, 0, none⟩ [(⟨⟨l1.toArray⟩, ⟨l2.toArray⟩, ⟨l3.toArray⟩⟩ : AdB)] 1 1 rfl rfl (cells_atA _ _ (by simp) [_, _, _] _) (by omega) (by omega) (by have := tb.size; simp; omega) ?_; intro v6 w6 hown6 hg6; have hb6 := Below_grownG ((tb.alloc tb.size _).alloc (by have := tb.size; simp; omega) _) (ownsG.alloc (ownsG.alloc hown3 _) _) hg6 (by have := tb.size; simp; omega); clear hg6)))
          go_roundg (xs.length - (k + 1))
          case rel => exact ⟨k + 1, b, _, by omega, by go_num, rfl, by rw [List.length_append, List.length_singleton]; omega, hown6, hb6, hd⟩
          case measure => omega
        | false =>
          have hd := Lib.hid (t3 rfl)
          clear s1 s2 s3 t2 t3 hT hle hcell hrel hO
          go_wp2_with (go_at_call 28; (with_reducible refine HO.out.mono ?_); rintro e w3 ⟨rfl, hb3⟩; have tb := hbel.trans (hb3.mono hsz); have hown3 := ownsG.below hown hb3 (Nat.le_refl _))
          go_roundg (xs.length - (k + 1))
          case rel => exact ⟨k + 1, false, ys, by omega, by go_num, rfl, by omega, ownsG.alloc hown3 _, tb.alloc tb.size _, hd⟩
          case measure => omega
    · obtain ⟨x1, x2⟩ := par_end hrel.out (by rw [← HXL.out]; exact hlt)
      have hpost : Hid (ParsIs (goodL L, allL L) w (.returned (.tuple #[u4, .bool b])) wr) := ⟨_, ys, by rw [x2], hown.base h1, x1, hb1.trans (hbel.mono h1)⟩
      clear hrel hown x1 x2
      go_wp2_with fail
      go_ret2
      exact hpost.out
end Go.Proofs.YtilccofdphohiaaGreatDoor
