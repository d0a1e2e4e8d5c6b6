/- Walks: chapter 23's laws: a list of tokens as it is handed in. -/
import Derived.Test.YtiioijkpdkfknaaGreatDoorLawLxW
import Derived.Test.YtiioijkpdkfknaaGreatDoorWorld23
import Derived.Deep.Slices
import Derived.OpenShut
import Derived.WideShapes
namespace Go.Proofs.YtiioijkpdkfknaaGreatDoor
open Go.RowKit Pk Lx

instance : Inhabited Lex := ⟨⟨0, ⟨#[]⟩, 0, 0⟩⟩
def LexSees (w : World) (v : Value) (L : List Lex) : Prop := ∃ p c, v = .slice p L.length c ∧ L.length ≤ c ∧ (L = [] ∨ ∃ g o, p = some ⟨g, o, none⟩ ∧ ∀ j (hj : j < L.length), w.cell? ⟨g, o + j * 4, none⟩ = some (.int .i64 L[j].k) ∧ w.cell? ⟨g, o + j * 4 + 1, none⟩ = some (.string L[j].t) ∧ w.cell? ⟨g, o + j * 4 + 2, none⟩ = some (.int .i64 L[j].n) ∧ w.cell? ⟨g, o + j * 4 + 3, none⟩ = some (.int .i64 L[j].a))
set_option maxRecDepth 100000 in
theorem laidOut : laidOutB Tryz.prog = true := by kernel_rfl
theorem cellsL : Tryz.prog.cellsOf 28 = 4 := by kernel_rfl
theorem cellsS : Tryz.prog.cellsOf 9 = 1 := by kernel_rfl
theorem cellsI : Tryz.prog.cellsOf 3 = 1 := by kernel_rfl
set_option maxRecDepth 100000 in
theorem lexs_of {H : Type} {enc : TypeId × Value → H} {W : World} {v : Value} {d : DataW H} {p : List MemPlace} {base : Nat} (hv : Value.okWide Tryz.prog W .any base 23 v) (h : DataW.Trod enc Tryz.prog W 0 (fun _ => true) true 23 v d p) : ∃ ys : List Lex, LexSees W v ys ∧ ys.length ≤ 9223372036854775807 ∧ ∀ x ∈ ys, -9223372036854775808 ≤ x.n ∧ x.n ≤ 9223372036854775807 := by
  obtain ⟨fuel, hf⟩ := h
  obtain ⟨a0, len0, cap0, rfl⟩ := WideShapes.okWide_slice Tryz.underlying23 hv
  rcases Deep.open_slice Tryz.underlying23 hf with ⟨hc, -⟩ | ⟨a, len, cap, m, n, D, Pl, hc, -, hl, hm, hmm, -, hx⟩
  · have hc : Value.slice a0 len0 cap0 = .slice none 0 0 := List.head_eq_of_cons_eq hc
    exact ⟨[], ⟨none, 0, hc, Nat.le_refl _, .inl rfl⟩, Nat.zero_le _, fun x hx => by cases hx⟩
  · have hc : Value.slice a0 len0 cap0 = .slice (some a) len cap := List.head_eq_of_cons_eq hc
    rw [if_pos rfl] at hmm
    have each : ∀ i, i < len → ∃ q : Lex, (W.cell? (a.add (i * 4)) = some (.int .i64 q.k) ∧ W.cell? (a.add (i * 4 + 1)) = some (.string q.t) ∧ W.cell? (a.add (i * 4 + 2)) = some (.int .i64 q.n) ∧ W.cell? (a.add (i * 4 + 3)) = some (.int .i64 q.a)) ∧ -9223372036854775808 ≤ q.n ∧ q.n ≤ 9223372036854775807 := fun i hi => by
      obtain ⟨cs', h1, h2⟩ := hx i (by omega)
      rw [cellsL] at h1
      obtain ⟨_, hlen, hcell⟩ := World.cells?_some h1
      obtain ⟨xs, k, -, -, -, hxl, hff⟩ := DataW.trod_struct Tryz.underlying28 h2
      match xs, hxl, cs', hlen with
      | [y0, y1, y2, y3], _, [v0, v1, v2, v3], _ =>
        have g0 := hff 0 _ rfl
        have g1 := hff 1 _ rfl
        have g2 := hff 2 _ rfl
        have g3 := hff 3 _ rfl
        have g0 : DataW.trod enc Tryz.prog W 0 (fun _ => true) true k 3 (([v0, v1, v2, v3].drop 0).take (Tryz.prog.cellsOf 3)) = some y0 := g0
        have g1 : DataW.trod enc Tryz.prog W 0 (fun _ => true) true k 9 (([v0, v1, v2, v3].drop 1).take (Tryz.prog.cellsOf 9)) = some y1 := g1
        have g2 : DataW.trod enc Tryz.prog W 0 (fun _ => true) true k 3 (([v0, v1, v2, v3].drop 2).take (Tryz.prog.cellsOf 3)) = some y2 := g2
        have g3 : DataW.trod enc Tryz.prog W 0 (fun _ => true) true k 3 (([v0, v1, v2, v3].drop 3).take (Tryz.prog.cellsOf 3)) = some y3 := g3
        rw [cellsS] at g1
        rw [cellsI] at g0 g2 g3
        obtain ⟨s0, e0, -, -⟩ := DataW.trod_int Tryz.underlying3 g0
        obtain ⟨s1, e1, -, -⟩ := DataW.trod_string Tryz.underlying9 g1
        obtain ⟨s2, e2, -, hs2⟩ := DataW.trod_int Tryz.underlying3 g2
        obtain ⟨s3, e3, -, -⟩ := DataW.trod_int Tryz.underlying3 g3
        have hw2 := i64_of_wf hs2
        have u0 : v0 = .int .i64 s0 := List.head_eq_of_cons_eq e0
        have u1 : v1 = .string s1 := List.head_eq_of_cons_eq e1
        have u2 : v2 = .int .i64 s2 := List.head_eq_of_cons_eq e2
        have u3 : v3 = .int .i64 s3 := List.head_eq_of_cons_eq e3
        subst u0 u1 u2 u3
        have f0 := hcell 0 (by omega)
        have f1 := hcell 1 (by omega)
        have f2 := hcell 2 (by omega)
        have f3 := hcell 3 (by omega)
        rw [Deep.add_add] at f0 f1 f2 f3
        exact ⟨⟨s0, s1, s2, s3⟩, ⟨by simpa using f0, by simpa using f1, by simpa using f2, by simpa using f3⟩, hw2.1, hw2.2⟩
    obtain ⟨q, hq⟩ := Deep.choose_lt each
    have hlen : ((List.range len).map q).length = len := by rw [List.length_map, List.length_range]
    refine ⟨(List.range len).map q, ⟨some a, cap, by rw [hlen]; exact hc, by rw [hlen]; exact hl, ?_⟩, by rw [hlen]; exact Nat.le_trans hl hm, fun x hx => ?_⟩
    · by_cases h0 : len = 0
      · left; rw [h0]; rfl
      · right
        obtain ⟨b, off, spot⟩ := a
        have hspot : spot = none := by simpa [Addr.add] using World.cell?_spot (hq 0 (by omega)).1.1
        subst hspot
        refine ⟨b, off, rfl, fun j hj => ?_⟩
        rw [hlen] at hj
        obtain ⟨⟨c0, c1, c2, c3⟩, -⟩ := hq j hj
        rw [Go.WideShapes.add_plain] at c0 c1 c2 c3
        rw [List.getElem_map, List.getElem_range]
        exact ⟨c0, c1, c2, c3⟩
    · obtain ⟨j, hj, rfl⟩ := List.mem_map.1 hx
      exact (hq j (List.mem_range.1 hj)).2
end Go.Proofs.YtiioijkpdkfknaaGreatDoor
