/- Walks: fold.Glob's inner function. -/
import Derived.Test.YtlbnhkojfefccaaDoorFd6
import Derived.Deep.RegionHeld3
import Derived.Deep.AppendLies
namespace Go.Proofs.YtlbnhkojfefccaaDoor
open Go.RowKit Pk U8 Su Fo

/-- the match so far: what has been taken, and where it stands -/
structure GSt (w : World) (bO bA C : Nat) (out : List ByteArray) (p : Nat) : Prop where
  o : ∃ v, w.heap[bO]? = some (.cells #[v] 24 (0, 0)) ∧ ownsS w C 9 v out
  a : w.heap[bA]? = some (.cells #[.int .i64 p] 3 (0, 0))
def ConsIs (w : World) (bO bA C D : Nat) (out : List ByteArray) (p : Nat) (e : Ending) (w' : World) : Prop := e = .returned (.tuple #[]) ∧ GSt w' bO bA C out p ∧ Below D w w'
theorem any_step {m : List El} {us : List ByteArray} {i : Nat} {acc X : List ByteArray} (h : Hid (acc ++ anyL (m.drop i) (us.drop i) = X)) (hi : i < m.length) (hu : i < us.length) :
    (m[i].kind = 1 → Hid (acc ++ [us[i]] ++ anyL (m.drop (i + 1)) (us.drop (i + 1)) = X)) ∧ (m[i].kind ≠ 1 → Hid (acc ++ anyL (m.drop (i + 1)) (us.drop (i + 1)) = X)) := by
  have e := h.out
  rw [List.drop_eq_getElem_cons hi, List.drop_eq_getElem_cons hu] at e
  unfold anyL at e
  have e3 : (us[i] :: us.drop (i + 1)).take 1 = [us[i]] := rfl
  have e4 : (us[i] :: us.drop (i + 1)).drop 1 = us.drop (i + 1) := rfl
  rw [e3, e4] at e
  refine ⟨fun h1 => ?_, fun h1 => ?_⟩
  · rw [if_pos h1] at e
    show _ = _
    rw [← e, List.append_assoc]
  · rw [if_neg h1] at e
    show _ = _
    rw [← e]; rfl
theorem heap_set1 {w : World} {b : Nat} {v x : Value} {t : TypeId} {fz : Nat × Nat} (h : w.heap[b]? = some (.cells #[v] t fz)) : (w.setCell ⟨b, 0, none⟩ x).heap[b]? = some (.cells #[x] t fz) := by
  simp [World.setCell, Array.getElem?_modify, h]
theorem cell_one {w : World} {b : Nat} {v : Value} {t : TypeId} (h : w.heap[b]? = some (.cells #[v] t (0, 0))) : w.cell? ⟨b, 0, none⟩ = some v ∧ w.frozen? ⟨b, 0, none⟩ = false :=
  ⟨(Lib.cell_of_heap h _).trans rfl, by simp [World.frozen?, h]⟩
theorem ownsS.setOther {w : World} {B b j : Nat} {e : TypeId} {v x : Value} {l : List ByteArray} (h : ownsS w B e v l) (hb : b < B) : ownsS (w.setCell ⟨b, j, none⟩ x) B e v l := by
  refine ⟨h.1, ?_⟩
  rcases h.2 with hn | ⟨g, cap, cur, h1, h2, h3, h4⟩
  · exact .inl hn
  · refine .inr ⟨g, cap, cur, h1, h2, ?_, h4⟩
    rw [Below.heap_setCell _ _ _ _ (show g ≠ b by omega)]
    exact h3
theorem own_form {w : World} {B : Nat} {e : TypeId} {v : Value} {l : List ByteArray} (h : ownsS w B e v l) (hl : l ≠ []) : ∃ g cap n, v = .slice (some ⟨g, 0, none⟩) n cap := by
  rcases h.form with ⟨-, h2⟩ | ⟨g, cap, h1, -⟩
  · exact absurd h2 hl
  · exact ⟨g, cap, _, h1⟩
theorem gst_put {w w1 w6 : World} {bO bA C D p : Nat} {acc : List ByteArray} {u : ByteArray} {vo v6 : Value} {o : Obj} (ho : w1.heap[bO]? = some (.cells #[vo] 24 (0, 0))) (ha : w1.heap[bA]? = some (.cells #[.int .i64 p] 3 (0, 0)))
    (hown : ownsS w1 C 9 vo acc) (hown6 : ownsS w6 C 9 v6 (acc ++ [u])) (hg6 : (w1.alloc o).grownBy w6 vo.ownBlock) (hbel : Below D w w1) (h1 : D ≤ bO) (h3 : bO < C) (h4 : bA < C) (h5 : C ≤ w1.heap.size) (h6 : bO ≠ bA) :
    w6.cell? ⟨bO, 0, none⟩ = some vo ∧ w6.frozen? ⟨bO, 0, none⟩ = false ∧ GSt (w6.setCell ⟨bO, 0, none⟩ v6) bO bA C (acc ++ [u]) p ∧ Below D w (w6.setCell ⟨bO, 0, none⟩ v6) ∧ C ≤ (w6.setCell ⟨bO, 0, none⟩ v6).heap.size ∧ w6.cell? ⟨bA, 0, none⟩ = some (.int .i64 p) ∧ ∀ g j v, g < D → w1.cell? ⟨g, j, none⟩ = some v → w6.cell? ⟨g, j, none⟩ = some v := by
  have hO6 := iter_kept hown hg6 h3 h5 ho
  have hA6 := iter_kept hown hg6 h4 h5 ha
  obtain ⟨c6, f6⟩ := cell_one hO6
  have hb6 : Below D w w6 := (hbel.alloc (by omega) o).grown hg6 (by simp; omega) (fun k hk => by have := (World.ownsRow.lt hown k hk).1; omega)
  have hz6 : C ≤ w6.heap.size := by
    have := hg6.size
    simp at this
    omega
  refine ⟨c6, f6, ⟨⟨v6, heap_set1 hO6, ownsS.setOther hown6 h3⟩, ?_⟩, hb6.setCell h1 _, by simp [World.setCell]; exact hz6, (cell_one hA6).1, fun g j v hg hc => ?_⟩
  · rw [Below.heap_setCell _ _ _ _ (show bA ≠ bO by omega)]
    exact hA6
  · have hD : Below D w1 w6 := ((Below.refl D w1).alloc (by omega) o).grown hg6 (by simp; omega) (fun k hk => by have := (World.ownsRow.lt hown k hk).1; omega)
    rw [← hc]
    unfold World.cell?
    rw [hD.block g hg]
theorem gst_at {w0 w : World} {bO bA C D p : Nat} {out : List ByteArray} (hG : GSt w bO bA C out p) (q : Nat) (hbel : Below D w0 w) (h2 : D ≤ bA) (h4 : bA < C) (h5 : C ≤ w.heap.size) (h6 : bO ≠ bA) :
    GSt (w.setCell ⟨bA, 0, none⟩ (.int .i64 q)) bO bA C out q ∧ Below D w0 (w.setCell ⟨bA, 0, none⟩ (.int .i64 q)) ∧ C ≤ (w.setCell ⟨bA, 0, none⟩ (.int .i64 q)).heap.size := by
  obtain ⟨⟨vo, ho, hown⟩, ha⟩ := hG
  exact ⟨⟨⟨vo, (Below.heap_setCell _ _ _ _ h6).trans ho, ownsS.setOther hown h4⟩, heap_set1 ha⟩, hbel.setCell h2 _, by simp [World.setCell]; exact h5⟩
theorem GSt.below {w w' : World} {bO bA C p : Nat} {out : List ByteArray} (hG : GSt w bO bA C out p) (hb : Below w.heap.size w w') : GSt w' bO bA C out p := by
  obtain ⟨⟨vo, ho, hown⟩, ha⟩ := hG
  exact ⟨⟨vo, (hb.block _ (lt_of_block ho)).trans ho, ownsS.below hown hb (Nat.le_refl _)⟩, (hb.block _ (lt_of_block ha)).trans ha⟩
set_option maxHeartbeats 4000000 in
set_option maxRecDepth 100000 in
theorem cons_some (m : List El) (us : List ByteArray) (gm cm gu cu bO bU bA C D p : Nat) (out : List ByteArray) (w : World) (hm : m.length ≤ 1000000) (hu : us.length ≤ 1000000) (hp : p + m.length ≤ us.length) (hout : out.length ≤ 1000000)
    (hM : ∀ j (hj : j < m.length), w.cell? ⟨gm, j * 2, none⟩ = some (.int .i64 m[j].kind) ∧ w.cell? ⟨gm, j * 2 + 1, none⟩ = some (.string m[j].text)) (hgm : gm < D)
    (hUs : ∀ j (hj : j < us.length), w.cell? ⟨gu, j, none⟩ = some (.string us[j])) (hgu : gu < D)
    (hU : w.cell? ⟨bU, 0, none⟩ = some (.slice (some ⟨gu, 0, none⟩) us.length cu)) (hbU : bU < D)
    (hG : GSt w bO bA C out p) (h1 : D ≤ bO) (h2 : D ≤ bA) (h3 : bO < C) (h4 : bA < C) (h5 : C ≤ w.heap.size) (h6 : bO ≠ bA) :
    Calls Tryd.prog 39 #[.slice (some ⟨gm, 0, none⟩) m.length cm, .pointer (some ⟨bO, 0, none⟩), .pointer (some ⟨bU, 0, none⟩), .pointer (some ⟨bA, 0, none⟩)] w (ConsIs w bO bA C D (out ++ anyL m (us.drop p)) (p + m.length)) := by
  have hz : Hid (out ++ anyL (m.drop 0) ((us.drop p).drop 0) = out ++ anyL m (us.drop p)) := rfl
  generalize out ++ anyL m (us.drop p) = X at hz ⊢
  have HM := Lib.hid hM
  have HUs := Lib.hid hUs
  clear hM hUs
  go_enter Tryd.func39, Tryd.ntmps39
  go_wp2
  go_loopw [9] (fun iv wr => ∃ (i : Nat) (acc : List ByteArray), iv = .int .i64 i ∧ GSt wr bO bA C acc p ∧ Below D w wr ∧ C ≤ wr.heap.size ∧ i ≤ m.length ∧ acc.length ≤ out.length + i ∧ Hid (acc ++ anyL (m.drop i) ((us.drop p).drop i) = X)) (fun iv _ => m.length - (intOf iv).toNat)
  case atStart => exact ⟨0, out, by first | rfl | trivial, hG, Below.refl _ _, h5, by omega, by omega, hz⟩
  case round =>
    clear hz hG
    obtain ⟨i, acc, rfl, hG, hbel, hsz, hi, hal, hrel⟩ := hrel
    have kp : ∀ {g j : Nat} {v : Value}, g < D → w.cell? ⟨g, j, none⟩ = some v → wr.cell? ⟨g, j, none⟩ = some v := fun hg hc => by
      rw [← hc]; unfold World.cell?; rw [hbel.block _ hg]
    by_cases hlt : i < m.length
    · obtain ⟨s1, s2⟩ := any_step hrel hlt (by rw [List.length_drop]; omega)
      obtain ⟨c0, c1⟩ := HM.out i hlt
      have c0 := kp hgm c0
      have c1 := kp hgm c1
      have hip : p + i < us.length := by omega
      have eu : (us.drop p)[i]'(by rw [List.length_drop]; omega) = us[p + i] := List.getElem_drop
      rw [eu] at s1
      have c2 := kp hgu (HUs.out (p + i) hip)
      have c3 := kp hbU hU
      obtain ⟨⟨vo, ho, hown⟩, ha⟩ := hG
      by_cases hk : m[i].kind = 1
      · have qk : ((m[i].kind : Int) == 1) = true := beq_iff_eq.2 (by omega)
        have hd := s1 hk
        clear s1 s2 hrel hk kp
        generalize us[p + i] = u at c2 hd
        generalize m[i].kind = kd at c0 qk
        generalize m[i].text = tx at c1
        have cA := (cell_one ha).1
        have cO := (cell_one ho).1
        have hA1 : Below wr.heap.size wr (wr.alloc (.cells #[.int .i64 kd, .string tx] 62)) := (Below.refl _ _).alloc (Nat.le_refl _) _
        have ho1 := (hA1.block bO (by omega)).trans ho
        have ha1 := (hA1.block bA (by omega)).trans ha
        have hown1 := ownsS.alloc hown (.cells #[.int .i64 kd, .string tx] 62)
        have hbel1 := hbel.alloc (by omega) (.cells #[.int .i64 kd, .string tx] 62)
        have hz1 : C ≤ (wr.alloc (.cells #[.int .i64 kd, .string tx] 62)).heap.size := by have := hA1.size; omega
        have e2 := cell_later hA1 c2
        have e3 := cell_later hA1 c3
        have eA := (cell_one ha1).1
        have eO := (cell_one ho1).1
        have hw : IntKind.i64.wrap ((p : Int) + (i : Int)) = (p : Int) + (i : Int) := w64 rfl (by omega) (by omega)
        have i6 : ((p : Int) + (i : Int)).toNat = p + i := by omega
        have i8 : (0 : Int) ≤ (p : Int) + (i : Int) := by omega
        have i9 : (p : Int) + (i : Int) < (us.length : Int) := by omega
        go_wp2
        generalize wr.alloc (.cells #[.int .i64 kd, .string tx] 62) = W at *
        have hAl : Below W.heap.size W (W.alloc (.cells #[.string u] 9)) := (Below.refl _ _).alloc (Nat.le_refl _) _
        clear c0 c1 c2 c3 cA cO hA1 hown hbel ho ha
        have eO2 := cell_later hAl eO
        have e32 := cell_later hAl e3
        have eA2 := cell_later hAl eA
        have e22 := cell_later hAl e2
        go_region_law (first
            | (refine step_str (by rfl) (.tmp 17) (.tmp 24) ssF (by rfl) C _ _ (by rfl) (ownsS.drew (ownsS.alloc hown1 _)) ⟨_, 0, none⟩ 1 1 [_] (by rfl) rfl (cells_new _ _ _) (by first | omega | (simp; done) | (simp; omega)) (by first | omega | (simp; done) | (simp; omega)) ?_; intro v6 w6 hown6 hg6; obtain ⟨g6, cap6, n6, rfl⟩ := own_form hown6 (by simp); obtain ⟨cO6, fO6, hG6, hb6, hz6, cA6, hk6⟩ := gst_put (w1 := W.drew) ho1 ha1 hown1 hown6 hg6 hbel1.drew h1 h3 h4 hz1 h6; have k3 := hk6 _ _ _ hbU e3; have k2 := hk6 _ _ _ hgu e2; clear hg6 hk6))
        all_goals
          go_wp2
          go_roundw
          case rel => exact ⟨i + 1, _, by go_num, hG6, hb6, hz6, by omega, by rw [List.length_append, List.length_singleton]; omega, hd⟩
          case measure => simp [intOf]; omega
      · have qk : ((m[i].kind : Int) == 1) = false := beq_eq_false_iff_ne.2 (by omega)
        have hd := s2 hk
        clear s1 s2 hrel hk kp c2 c3 eu
        generalize m[i].kind = kd at c0 qk
        generalize m[i].text = tx at c1
        have hA1 : Below wr.heap.size wr (wr.alloc (.cells #[.int .i64 kd, .string tx] 62)) := (Below.refl _ _).alloc (Nat.le_refl _) _
        have hG1 : GSt (wr.alloc (.cells #[.int .i64 kd, .string tx] 62)) bO bA C acc p := ⟨⟨vo, (hA1.block bO (by omega)).trans ho, ownsS.alloc hown _⟩, (hA1.block bA (by omega)).trans ha⟩
        have hbel1 := hbel.alloc (by omega) (.cells #[.int .i64 kd, .string tx] 62)
        have hz1 : C ≤ (wr.alloc (.cells #[.int .i64 kd, .string tx] 62)).heap.size := by have := hA1.size; omega
        clear hA1 ho hown ha hbel
        go_wp2
        go_roundw
        case rel => exact ⟨i + 1, _, by go_num, hG1, hbel1, hz1, by omega, by omega, hd⟩
        case measure => simp [intOf]; omega
    · obtain ⟨⟨vo, ho, hown⟩, ha⟩ := hG
      obtain ⟨cA, fA⟩ := cell_one ha
      have e := hrel.out
      rw [List.drop_eq_nil_of_le (show m.length ≤ i by omega)] at e
      obtain rfl : X = acc := by rw [← e]; simp [anyL]
      have hpost : Hid (ConsIs w bO bA C D X (p + m.length) (.returned (.tuple #[])) (wr.setCell ⟨bA, 0, none⟩ (.int .i64 ((p + m.length : Nat) : Int)))) :=
        ⟨rfl, ⟨⟨vo, (Below.heap_setCell _ _ _ _ h6).trans ho, ownsS.setOther hown h4⟩, heap_set1 ha⟩, hbel.setCell h2 _⟩
      have hcast : ((p + m.length : Nat) : Int) = (p : Int) + (m.length : Int) := by omega
      rw [hcast] at hpost
      clear hrel e ho hown ha kp hcast
      go_wp2
      refine bodyPost_ret (results_none rfl _ _ _) rfl ?_
      exact hpost.out
/-- the units, as the inner function reads them -/
def UV (w : World) (D : Nat) (vu : Value) (us : List ByteArray) : Prop := us = [] ∨ ∃ gu cu, vu = .slice (some ⟨gu, 0, none⟩) us.length cu ∧ us.length ≤ cu ∧ gu < D ∧ ∀ j (hj : j < us.length), w.cell? ⟨gu, j, none⟩ = some (.string us[j])
set_option maxRecDepth 100000 in
theorem cons_any (vm vu : Value) (m : List El) (us : List ByteArray) (bO bU bA C D p : Nat) (out : List ByteArray) (w : World) (hm : m.length ≤ 1000000) (hu : us.length ≤ 1000000) (hp : p + m.length ≤ us.length) (hout : out.length ≤ 1000000)
    (hM : seesE w D 62 vm m) (hUV : UV w D vu us) (hU : w.cell? ⟨bU, 0, none⟩ = some vu) (hbU : bU < D)
    (hG : GSt w bO bA C out p) (h1 : D ≤ bO) (h2 : D ≤ bA) (h3 : bO < C) (h4 : bA < C) (h5 : C ≤ w.heap.size) (h6 : bO ≠ bA) :
    Calls Tryd.prog 39 #[vm, .pointer (some ⟨bO, 0, none⟩), .pointer (some ⟨bU, 0, none⟩), .pointer (some ⟨bA, 0, none⟩)] w (ConsIs w bO bA C D (out ++ anyL m (us.drop p)) (p + m.length)) := by
  obtain ⟨pm, cm, rfl, hcm, hM⟩ := hM.form
  by_cases h0 : m.length = 0
  · have : m = [] := List.eq_nil_of_length_eq_zero h0
    subst this
    have hX : out ++ anyL [] (us.drop p) = out := by simp [anyL]
    rw [hX]
    obtain ⟨⟨vo, ho, hown⟩, ha⟩ := hG
    obtain ⟨cA, fA⟩ := cell_one ha
    have hpost : Hid (ConsIs w bO bA C D out p (.returned (.tuple #[])) (w.setCell ⟨bA, 0, none⟩ (.int .i64 p))) :=
      ⟨rfl, ⟨⟨vo, (Below.heap_setCell _ _ _ _ h6).trans ho, ownsS.setOther hown h4⟩, heap_set1 ha⟩, (Below.refl _ _).setCell h2 _⟩
    clear hM hUV hU ho hown ha hX
    go_enter Tryd.func39, Tryd.ntmps39
    go_wp2
    go_loopw [9] (fun iv wr => iv = .int .i64 0 ∧ wr = w) (fun iv _ => 0)
    case atStart => exact ⟨by first | rfl | trivial, rfl⟩
    case round =>
      obtain ⟨rfl, rfl⟩ := hrel
      go_wp2
      refine bodyPost_ret (results_none rfl _ _ _) rfl ?_
      exact hpost.out
  · rcases hM with rfl | ⟨gm, rfl, hgm, hM⟩
    · exact absurd rfl h0
    · rcases hUV with rfl | ⟨gu, cu, rfl, hcu, hgu, hUs⟩
      · exact absurd (show m.length = 0 by rw [List.length_nil] at hp; omega) h0
      · exact cons_some m us gm cm gu cu bO bU bA C D p out w hm hu hp hout hM hgm hUs hgu hU hbU hG h1 h2 h3 h4 h5 h6
end Go.Proofs.YtlbnhkojfefccaaDoor
