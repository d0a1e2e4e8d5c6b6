/- Walks: the reference's Same of token lists; lex.Text. -/
import Derived.Test.YtiioijkpdkfknaaGreatDoorLxT
import Derived.Test.YtiioijkpdkfknaaGreatDoorLxB
import Derived.Test.YtiioijkpdkfknaaGreatDoorRepE
namespace Lx
open Go Pk Go.RowKit
theorem lex_ext {x y : Lex} (h1 : x.k = y.k) (h2 : x.t = y.t) (h3 : x.n = y.n) (h4 : x.a = y.a) : x = y := by cases x; cases y; cases h1; cases h2; cases h3; cases h4; rfl
theorem toList_inj {a b : ByteArray} (h : a.toList = b.toList) : a = b := by
  rw [Lib.toList_data, Lib.toList_data] at h
  cases a; cases b
  congr 1
  exact Array.toList_inj.1 h
theorem lex_eq {x y : Lex} : x = y ↔ ((x.k == y.k) = true ∧ (x.t.toList == y.t.toList) = true ∧ (x.n == y.n) = true ∧ (x.a == y.a) = true) := by
  simp only [beq_iff_eq]
  exact ⟨fun h => by rw [h]; exact ⟨rfl, rfl, rfl, rfl⟩, fun ⟨h1, h2, h3, h4⟩ => lex_ext h1 (toList_inj h2) h3 h4⟩
/-- how far two lists are known to be alike -/
def LexEqAt (X : Bool) (a b : List Lex) (i : Nat) : Prop := X = true ↔ a.drop i = b.drop i
theorem eqL_step {a b : List Lex} {i : Nat} {X : Bool} (h : LexEqAt X a b i) (ha : i < a.length) (hb : i < b.length) :
    (a[i] = b[i] → LexEqAt X a b (i + 1)) ∧ (a[i] ≠ b[i] → X = false) := by
  have e := h
  unfold LexEqAt at e
  rw [List.drop_eq_getElem_cons ha, List.drop_eq_getElem_cons hb] at e
  refine ⟨fun h1 => ?_, fun h1 => ?_⟩
  · unfold LexEqAt
    rw [e, h1]
    exact ⟨fun h => by injection h, fun h => by rw [h]⟩
  · cases X with
    | false => rfl
    | true =>
      have h2 := e.1 rfl
      injection h2 with h2 _
      exact absurd h2 h1
noncomputable def sameL (a b : List Lex) : Bool := @decide (a = b) (Classical.propDecidable _)
theorem sameL_iff (a b : List Lex) : sameL a b = true ↔ a = b := by unfold sameL; exact @decide_eq_true_iff _ (Classical.propDecidable _)
end Lx
namespace Go.Proofs.YtiioijkpdkfknaaGreatDoor
open Go.RowKit Pk Lx Rp

theorem lex_cells {w : World} {g j : Nat} {x : Lex} (h : ∀ i u, (lexLay.enc x)[i]? = some u → w.cell? ⟨g, j * lexLay.k + i, none⟩ = some u) :
    w.cell? ⟨g, j * 4, none⟩ = some (.int .i64 x.k) ∧ w.cell? ⟨g, j * 4 + 1, none⟩ = some (.string x.t) ∧ w.cell? ⟨g, j * 4 + 2, none⟩ = some (.int .i64 x.n) ∧ w.cell? ⟨g, j * 4 + 3, none⟩ = some (.int .i64 x.a) :=
  ⟨h 0 _ rfl, h 1 _ rfl, h 2 _ rfl, h 3 _ rfl⟩
set_option maxHeartbeats 4000000 in
set_option maxRecDepth 100000 in
theorem sameL_any (va vb : Value) (a b : List Lex) (w : World) (hA : seesG lexLay w w.heap.size 28 va a) (hB : seesG lexLay w w.heap.size 28 vb b) (la : a.length ≤ 100000000) :
    Calls Tryz.prog 10 #[va, vb] w fun e w' => e = .returned (.bool (sameL a b)) ∧ Below w.heap.size w w' := by
  obtain ⟨pa, ca, rfl, hca, hA⟩ := hA.form
  obtain ⟨pb, cb, rfl, hcb, hB⟩ := hB.form
  by_cases hl : a.length = b.length
  · have q1 : ((a.length : Int) != (b.length : Int)) = false := by rw [hl]; simp
    have hz : Hid (LexEqAt (sameL a b) a b 0) := by show _ ↔ _; rw [sameL_iff]; simp
    generalize sameL a b = X at hz ⊢
    have HA := Lib.hid hA
    have HB := Lib.hid hB
    have l1 : a.length ≤ b.length := by omega
    have l2 : b.length ≤ a.length := by omega
    clear hA hB hl
    go_enter Tryz.func10, Tryz.ntmps10
    go_wp2
    go_loopw [5] (fun iv wr => ∃ (i : Nat), iv = .int .i64 i ∧ Below w.heap.size w wr ∧ i ≤ a.length ∧ Hid (LexEqAt X a b i)) (fun iv _ => a.length - (intOf iv).toNat)
    case atStart => exact ⟨0, by first | rfl | trivial, Below.refl _ _, by omega, hz⟩
    case round =>
      clear hz
      obtain ⟨i, rfl, hbel, hi, hrel⟩ := hrel
      by_cases hlt : i < a.length
      · obtain ⟨s1, s2⟩ := eqL_step (a := a) (b := b) (i := i) (X := X) hrel.out hlt (by omega)
        rcases HA.out with h0 | ⟨ga, rfl, -, hca2⟩
        · rw [h0, List.length_nil] at hlt; omega
        · rcases HB.out with h0 | ⟨gb, rfl, -, hcb2⟩
          · rw [h0, List.length_nil] at l1; omega
          · have hlt2 : i < b.length := by omega
            obtain ⟨c0, c1, c2, c3⟩ := lex_cells (hca2 i hlt)
            obtain ⟨d0, d1, d2, d3⟩ := lex_cells (hcb2 i hlt2)
            have c0 := cell_later hbel c0
            have c1 := cell_later hbel c1
            have c2 := cell_later hbel c2
            have c3 := cell_later hbel c3
            have d0 := cell_later hbel d0
            have d1 := cell_later hbel d1
            have d2 := cell_later hbel d2
            have d3 := cell_later hbel d3
            clear hca2 hcb2
            generalize a[i] = x at *
            generalize b[i] = y at *
            obtain ⟨x0, x1, x2, x3⟩ := x
            obtain ⟨y0, y1, y2, y3⟩ := y
            have c0 : wr.cell? ⟨ga, i * 4, none⟩ = some (.int .i64 x0) := c0
            have c1 : wr.cell? ⟨ga, i * 4 + 1, none⟩ = some (.string x1) := c1
            have c2 : wr.cell? ⟨ga, i * 4 + 2, none⟩ = some (.int .i64 x2) := c2
            have c3 : wr.cell? ⟨ga, i * 4 + 3, none⟩ = some (.int .i64 x3) := c3
            have d0 : wr.cell? ⟨gb, i * 4, none⟩ = some (.int .i64 y0) := d0
            have d1 : wr.cell? ⟨gb, i * 4 + 1, none⟩ = some (.string y1) := d1
            have d2 : wr.cell? ⟨gb, i * 4 + 2, none⟩ = some (.int .i64 y2) := d2
            have d3 : wr.cell? ⟨gb, i * 4 + 3, none⟩ = some (.int .i64 y3) := d3
            cases hq0 : (x0 == y0) with
            | true =>
              cases hq1 : (x1.toList == y1.toList) with
              | true =>
                cases hq2 : (x2 == y2) with
                | true =>
                  cases hq3 : (x3 == y3) with
                  | true =>
                    have hd := Lib.hid (s1 (lex_eq.2 ⟨hq0, hq1, hq2, hq3⟩))
                    clear s1 s2 hrel
                    go_wp2
                    go_region
                    go_wp2
                    go_roundw
                    case rel => exact ⟨i + 1, by go_num, hbel.drew, by omega, hd⟩
                    case measure => simp [intOf]; omega
                  | false =>
                    obtain rfl := s2 (fun h => by rw [lex_eq] at h; simp only at h; rw [hq3] at h; simp at h)
                    clear s1 s2 hrel
                    go_wp2
                    go_region
                    go_wp2
                    go_ret
                    exact ⟨rfl, hbel.drew⟩
                | false =>
                  obtain rfl := s2 (fun h => by rw [lex_eq] at h; simp only at h; rw [hq2] at h; simp at h)
                  clear s1 s2 hrel
                  go_wp2
                  go_region
                  go_wp2
                  go_ret
                  exact ⟨rfl, hbel.drew⟩
              | false =>
                obtain rfl := s2 (fun h => by rw [lex_eq] at h; simp only at h; rw [hq1] at h; simp at h)
                clear s1 s2 hrel
                go_wp2
                go_region
                go_wp2
                go_ret
                exact ⟨rfl, hbel.drew⟩
            | false =>
              obtain rfl := s2 (fun h => by rw [lex_eq] at h; simp only at h; rw [hq0] at h; simp at h)
              clear s1 s2 hrel
              go_wp2
              go_region
              go_wp2
              go_ret
              exact ⟨rfl, hbel.drew⟩
      · have e := hrel.out
        unfold LexEqAt at e
        rw [List.drop_eq_nil_of_le (show a.length ≤ i by omega), List.drop_eq_nil_of_le (show b.length ≤ i by omega)] at e
        obtain rfl : X = true := e.2 rfl
        clear hrel e
        go_wp2
        go_ret
        exact ⟨rfl, hbel⟩
  · have q1 : ((a.length : Int) != (b.length : Int)) = true := by rw [bne_iff_ne]; omega
    have hX : sameL a b = false := by
      cases h : sameL a b with
      | false => rfl
      | true => exact absurd (by rw [(sameL_iff a b).1 h]) hl
    rw [hX]
    clear hA hB hl hX
    go_enter Tryz.func10, Tryz.ntmps10
    go_wp2
    go_ret
    exact ⟨rfl, Below.refl _ _⟩
def eps2 : List (UInt8 × ByteArray) := [(34, ⟨#[92, 34]⟩), (92, ⟨#[92, 92]⟩)]
theorem eps2_rep (l : List UInt8) : repA eps2 l = l.flatMap escC := by
  have h0 : ∀ n : Nat, n < 256 → repP eps2 (UInt8.ofNat n) = escC (UInt8.ofNat n) := by decide +kernel
  have h : ∀ c : UInt8, repP eps2 c = escC c := fun c => by
    have := h0 c.toNat c.toNat_lt
    rwa [UInt8.ofNat_toNat] at this
  unfold repA
  induction l with
  | nil => rfl
  | cons c r ih => rw [List.flatMap_cons, List.flatMap_cons, ih, h c]
theorem esc_len (l : List UInt8) : (l.flatMap escC).length ≤ 2 * l.length := by
  induction l with
  | nil => simp
  | cons c r ih =>
    rw [List.flatMap_cons, List.length_append, List.length_cons]
    have : (escC c).length ≤ 2 := by unfold escC; split <;> (try split) <;> simp
    omega
theorem quote_mk (A : ByteArray) (l : List UInt8) (h : A.data.toList = l) : (⟨#[34]⟩ ++ A ++ ⟨#[34]⟩ : ByteArray) = toB (34 :: (l ++ [34])) := by
  have : ∀ a b : ByteArray, a.data = b.data → a = b := fun a b h => by cases a; cases b; congr 1
  apply this
  rw [ByteArray.data_append, ByteArray.data_append]
  have e : A.data = l.toArray := by rw [← h]
  rw [e]
  unfold toB
  simp
set_option maxHeartbeats 4000000 in
set_option maxRecDepth 100000 in
theorem lexText_any (s : ByteArray) (w : World) (hs : s.size ≤ 1000000) : Calls Tryz.prog 14 #[.string s] w fun e w' => e = .returned (.string (toB (textL s.data.toList))) ∧ Below w.heap.size w w' := by
  have hcells : ∀ (W : World) j (u : Value), ((inter eps2).map strV)[j]? = some u → (W.alloc (.cells ((inter eps2).map strV).toArray 9)).cell? ((⟨W.heap.size, 0, none⟩ : Addr).add j) = some u := fun W j u h => cells_new W _ _ j u h
  have hN := fun W => newRep_any W.heap.size 4 4 (inter eps2) (W.alloc (.cells ((inter eps2).map strV).toArray 9)) rfl (by decide) (hcells W) (by decide)
  have hRep := fun r B v w hrow hown => replace_any r B v eps2 s w hs (by decide) (by decide) (by decide) (by decide) (by decide) hrow hown
  rw [eps2_rep] at hRep
  have hl := esc_len s.data.toList
  rw [dataL] at hl
  obtain ⟨A, hAe, hAd, hAs⟩ := arrE (s.data.toList.flatMap escC)
  rw [← hAe] at hRep
  have hAl : A.size ≤ 2000000 := by omega
  have HA := Lib.hid (quote_mk A _ hAd)
  have HN := Lib.hid hN
  have HRep := Lib.hid hRep
  clear hN hRep hcells hl hAe hAd hAs
  go_enter Tryz.func14, Tryz.ntmps14
  go_wp2_with (first
    | (go_at_call 20; go_loud ((refine (HN.out w).mono ?_); rintro e w2 ⟨r, v, rfl, hrow, hown, hr, hb2⟩))
    | (go_at_call 21; go_loud ((refine (HRep.out r _ v _ hrow hown).mono ?_); rintro e w3 ⟨rfl, hb3⟩)))
  go_ret
  have ha : w.heap.size ≤ (w.alloc (.cells ((inter eps2).map strV).toArray 9)).heap.size := by simp
  exact ⟨by show Ending.returned (.string (⟨#[34]⟩ ++ A ++ ⟨#[34]⟩)) = _; rw [HA.out]; rfl, (((Below.refl w.heap.size w).alloc (Nat.le_refl _) (.cells ((inter eps2).map strV).toArray 9)).trans (hb2.mono ha)).trans (hb3.mono (Nat.le_trans ha hr))⟩
end Go.Proofs.YtiioijkpdkfknaaGreatDoor
