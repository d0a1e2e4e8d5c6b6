/- Walks: chapter 11's laws: a slice of addresses as it is handed in; few. -/
import Derived.Test.YtilccofdphohiaaGreatDoorAdXY
import Derived.Deep.Slices
import Derived.OpenShut
import Derived.WideShapes
namespace Go.Proofs.YtilccofdphohiaaGreatDoor
open Go.RowKit Pk Ad Tk

instance : Inhabited AdB := ⟨⟨⟨#[]⟩, ⟨#[]⟩, ⟨#[]⟩⟩⟩
set_option maxRecDepth 100000 in
theorem laidOut : laidOutB Tryz.prog = true := by kernel_rfl
theorem cellsA : Tryz.prog.cellsOf 34 = 3 := by kernel_rfl
theorem cellsS : Tryz.prog.cellsOf 9 = 1 := by kernel_rfl
set_option maxRecDepth 100000 in
theorem adrs_of {H : Type} {enc : TypeId × Value → H} {W : World} {v : Value} {d : DataW H} {p : List MemPlace} {base : Nat} (hv : Value.okWide Tryz.prog W .any base 23 v) (h : DataW.Trod enc Tryz.prog W 0 (fun _ => true) true 23 v d p) : ∃ ys, AdSees W v ys ∧ ys.length ≤ 9223372036854775807 := by
  obtain ⟨fuel, hf⟩ := h
  obtain ⟨a0, len0, cap0, rfl⟩ := WideShapes.okWide_slice Tryz.underlying23 hv
  rcases Deep.open_slice Tryz.underlying23 hf with ⟨hc, -⟩ | ⟨a, len, cap, m, n, D, Pl, hc, -, hl, hm, hmm, -, hx⟩
  · have hc : Value.slice a0 len0 cap0 = .slice none 0 0 := List.head_eq_of_cons_eq hc
    exact ⟨[], ⟨none, 0, hc, Nat.le_refl _, .inl rfl⟩, Nat.zero_le _⟩
  · have hc : Value.slice a0 len0 cap0 = .slice (some a) len cap := List.head_eq_of_cons_eq hc
    rw [if_pos rfl] at hmm
    have each : ∀ i, i < len → ∃ q : AdB, W.cell? (a.add (i * 3)) = some (.string q.name) ∧ W.cell? (a.add (i * 3 + 1)) = some (.string q.loc) ∧ W.cell? (a.add (i * 3 + 2)) = some (.string q.dom) := fun i hi => by
      obtain ⟨cs', h1, h2⟩ := hx i (by omega)
      rw [cellsA] at h1
      obtain ⟨_, hlen, hcell⟩ := World.cells?_some h1
      obtain ⟨xs, k, -, -, -, hxl, hff⟩ := DataW.trod_struct Tryz.underlying34 h2
      match xs, hxl, cs', hlen with
      | [y0, y1, y2], _, [v0, v1, v2], _ =>
        have g0 := hff 0 _ rfl
        have g1 := hff 1 _ rfl
        have g2 := hff 2 _ rfl
        have g0 : DataW.trod enc Tryz.prog W 0 (fun _ => true) true k 9 (([v0, v1, v2].drop 0).take (Tryz.prog.cellsOf 9)) = some y0 := g0
        have g1 : DataW.trod enc Tryz.prog W 0 (fun _ => true) true k 9 (([v0, v1, v2].drop 1).take (Tryz.prog.cellsOf 9)) = some y1 := g1
        have g2 : DataW.trod enc Tryz.prog W 0 (fun _ => true) true k 9 (([v0, v1, v2].drop 2).take (Tryz.prog.cellsOf 9)) = some y2 := g2
        rw [cellsS] at g0 g1 g2
        obtain ⟨s0, e0, -, -⟩ := DataW.trod_string Tryz.underlying9 g0
        obtain ⟨s1, e1, -, -⟩ := DataW.trod_string Tryz.underlying9 g1
        obtain ⟨s2, e2, -, -⟩ := DataW.trod_string Tryz.underlying9 g2
        have u0 : v0 = .string s0 := List.head_eq_of_cons_eq e0
        have u1 : v1 = .string s1 := List.head_eq_of_cons_eq e1
        have u2 : v2 = .string s2 := List.head_eq_of_cons_eq e2
        subst u0 u1 u2
        have f0 := hcell 0 (by omega)
        have f1 := hcell 1 (by omega)
        have f2 := hcell 2 (by omega)
        rw [Deep.add_add] at f0 f1 f2
        exact ⟨⟨s0, s1, s2⟩, by simpa using f0, by simpa using f1, by simpa using f2⟩
    obtain ⟨q, hq⟩ := Deep.choose_lt each
    have hlen : ((List.range len).map q).length = len := by rw [List.length_map, List.length_range]
    refine ⟨(List.range len).map q, ⟨some a, cap, by rw [hlen]; exact hc, by rw [hlen]; exact hl, ?_⟩, by rw [hlen]; exact Nat.le_trans hl hm⟩
    by_cases h0 : len = 0
    · left; rw [h0]; rfl
    · right
      obtain ⟨b, off, spot⟩ := a
      have hspot : spot = none := by simpa [Addr.add] using World.cell?_spot (hq 0 (by omega)).1
      subst hspot
      refine ⟨b, off, rfl, fun j hj => ?_⟩
      rw [hlen] at hj
      obtain ⟨c0, c1, c2⟩ := hq j hj
      rw [Go.WideShapes.add_plain] at c0 c1 c2
      rw [List.getElem_map, List.getElem_range]
      exact ⟨c0, c1, c2⟩
def fewOk (a : AdB) : Bool := decide (a.name.size ≤ 300) && (decide (a.loc.size ≤ 300) && decide (a.dom.size ≤ 300))
def fewA (ys : List AdB) : Bool := ys.all fewOk && decide (ys.length ≤ 20)
theorem few_size {ys : List AdB} (h : fewA ys = true) : ys.length ≤ 20 ∧ ∀ a ∈ ys, a.name.size ≤ 300 ∧ a.loc.size ≤ 300 ∧ a.dom.size ≤ 300 := by
  unfold fewA at h
  rw [Bool.and_eq_true] at h
  refine ⟨of_decide_eq_true h.2, fun a ha => ?_⟩
  have := List.all_eq_true.1 h.1 a ha
  unfold fewOk at this
  rw [Bool.and_eq_true, Bool.and_eq_true] at this
  exact ⟨of_decide_eq_true this.1, of_decide_eq_true this.2.1, of_decide_eq_true this.2.2⟩
theorem all_stepF {p : AdB → Bool} {ys : List AdB} {k : Nat} {X : Bool} (h : Hid ((ys.drop k).all p = X)) (hk : k < ys.length) : (p ys[k] = true → Hid ((ys.drop (k + 1)).all p = X)) ∧ (p ys[k] = false → X = false) := by
  have e := h.out
  rw [List.drop_eq_getElem_cons hk, List.all_cons] at e
  exact ⟨fun h1 => by rw [h1, Bool.true_and] at e; exact e, fun h1 => by rw [h1, Bool.false_and] at e; exact e.symm⟩
set_option maxHeartbeats 1000000 in
set_option maxRecDepth 100000 in
theorem few_any (v : Value) (ys : List AdB) (w : World) (hv : AdSees w v ys) (hl : ys.length ≤ 9223372036854775807) : Calls Tryz.prog 17 #[v] w fun e w' => e = .returned (.bool (fewA ys)) ∧ Below w.heap.size w w' := by
  obtain ⟨p, c, rfl, hc, hcs⟩ := hv
  have hX : fewA ys = (ys.all fewOk && decide (ys.length ≤ 20)) := rfl
  rw [hX]
  clear hX
  have hst : Hid ((ys.drop 0).all fewOk = ys.all fewOk) := rfl
  generalize ys.all fewOk = X at hst ⊢
  have HC := Lib.hid hcs
  have tb := Below.refl w.heap.size w
  clear hcs
  go_enter Tryz.func17, Tryz.ntmps17
  go_wp2
  go_loopg [3] ys.length (fun g iv wr => ∃ k : Nat, k + g = ys.length ∧ iv = .int .i64 k ∧ Below w.heap.size w wr ∧ Hid ((ys.drop k).all fewOk = X))
  case atStart => exact ⟨0, by omega, by first | rfl | trivial, tb, hst⟩
  case round =>
    clear hst tb
    obtain ⟨k, hkg, rfl, hbel, hrel⟩ := hrel
    by_cases hlt : k < ys.length
    · obtain ⟨gg, o, rfl, hcell⟩ : ∃ g o, p = some ⟨g, o, none⟩ ∧ ∀ j (hj : j < ys.length), w.cell? ⟨g, o + j * 3, none⟩ = some (.string ys[j].name) ∧ w.cell? ⟨g, o + j * 3 + 1, none⟩ = some (.string ys[j].loc) ∧ w.cell? ⟨g, o + j * 3 + 2, none⟩ = some (.string ys[j].dom) := by
        rcases HC.out with h | h
        · rw [h] at hlt; simp at hlt
        · exact h
      obtain ⟨c0, c1, c2⟩ := hcell k hlt
      have c0 := laterW (hbel.mono (Nat.le_refl _)) c0
      have c1 := laterW (hbel.mono (Nat.le_refl _)) c1
      have c2 := laterW (hbel.mono (Nat.le_refl _)) c2
      obtain ⟨s1, s2⟩ := all_stepF hrel hlt
      have z0 : (0 : Int) ≤ (k : Int) := by omega
      have z1 : (k : Int) < (ys.length : Int) := by omega
      generalize ys[k] = a at *
      obtain ⟨nm, lo, dm⟩ := a
      have c0 : wr.cell? ⟨gg, o + k * 3, none⟩ = some (.string nm) := c0
      have c1 : wr.cell? ⟨gg, o + k * 3 + 1, none⟩ = some (.string lo) := c1
      have c2 : wr.cell? ⟨gg, o + k * 3 + 2, none⟩ = some (.string dm) := c2
      clear hcell
      by_cases b1 : nm.size ≤ 300
      · have q1 : decide ((nm.size : Int) > 300) = false := decide_eq_false (by omega)
        have q1' : decide ((300 : Int) < (nm.size : Int)) = false := decide_eq_false (by omega)
        by_cases b2 : lo.size ≤ 300
        · have q2 : decide ((lo.size : Int) > 300) = false := decide_eq_false (by omega)
          have q2' : decide ((300 : Int) < (lo.size : Int)) = false := decide_eq_false (by omega)
          by_cases b3 : dm.size ≤ 300
          · have q3 : decide ((dm.size : Int) > 300) = false := decide_eq_false (by omega)
            have q3' : decide ((300 : Int) < (dm.size : Int)) = false := decide_eq_false (by omega)
            have hd := s1 (by unfold fewOk; simp only; rw [decide_eq_true b1, decide_eq_true b2, decide_eq_true b3]; rfl)
            clear s1 s2 hrel
            go_wp2
            go_roundg (ys.length - (k + 1))
            case rel => exact ⟨k + 1, by omega, by go_num, hbel, hd⟩
            case measure => omega
          · have q3 : decide ((dm.size : Int) > 300) = true := decide_eq_true (by omega)
            have q3' : decide ((300 : Int) < (dm.size : Int)) = true := decide_eq_true (by omega)
            obtain rfl := s2 (by unfold fewOk; simp only; rw [decide_eq_false b3, Bool.and_false, Bool.and_false])
            clear s1 s2 hrel
            go_wp2
            go_ret
            exact ⟨rfl, hbel⟩
        · have q2 : decide ((lo.size : Int) > 300) = true := decide_eq_true (by omega)
          have q2' : decide ((300 : Int) < (lo.size : Int)) = true := decide_eq_true (by omega)
          obtain rfl := s2 (by unfold fewOk; simp only; rw [decide_eq_false b2, Bool.false_and, Bool.and_false])
          clear s1 s2 hrel
          go_wp2
          go_ret
          exact ⟨rfl, hbel⟩
      · have q1 : decide ((nm.size : Int) > 300) = true := decide_eq_true (by omega)
        have q1' : decide ((300 : Int) < (nm.size : Int)) = true := decide_eq_true (by omega)
        obtain rfl := s2 (by unfold fewOk; simp only; rw [decide_eq_false b1, Bool.false_and])
        clear s1 s2 hrel
        go_wp2
        go_ret
        exact ⟨rfl, hbel⟩
    · have e := hrel.out
      rw [List.drop_eq_nil_of_le (by omega)] at e
      obtain rfl : X = true := e.symm
      have q5 : decide ((ys.length : Int) ≤ 20) = decide (ys.length ≤ 20) := decide_eq_decide.2 (by omega)
      clear hrel e
      go_wp2
      go_ret
      exact ⟨by first | rfl | (rw [Bool.true_and]; rfl) | (rw [Bool.true_and, ← q5]; rfl), hbel⟩
end Go.Proofs.YtilccofdphohiaaGreatDoor
