/- Walks: lex.Text; the cells of a token. -/
import Derived.Test.YtgimgkjggaijoaaGreatDoorLxT
import Derived.Test.YtgimgkjggaijoaaGreatDoorLxB
import Derived.Test.YtgimgkjggaijoaaGreatDoorRepE
namespace Lx
open Go Pk Go.RowKit
theorem lex_ext {x y : Lex} (h1 : x.k = y.k) (h2 : x.t = y.t) (h3 : x.n = y.n) (h4 : x.a = y.a) : x = y := by cases x; cases y; cases h1; cases h2; cases h3; cases h4; rfl
theorem toList_inj {a b : ByteArray} (h : a.toList = b.toList) : a = b := by
  rw [Lib.toList_data, Lib.toList_data] at h
  cases a; cases b
  congr 1
  exact Array.toList_inj.1 h
theorem lex_eq {x y : Lex} : x = y ↔ ((x.k == y.k) = true ∧ (x.t.toList == y.t.toList) = true ∧ (x.n == y.n) = true ∧ (x.a == y.a) = true) := by
  simp only [beq_iff_eq]
  exact ⟨fun h => by rw [h]; exact ⟨rfl, rfl, rfl, rfl⟩, fun ⟨h1, h2, h3, h4⟩ => lex_ext h1 (toList_inj h2) h3 h4⟩
end Lx
namespace Go.Proofs.YtgimgkjggaijoaaGreatDoor
open Go.RowKit Pk Lx Rp

theorem lex_cells {w : World} {g j : Nat} {x : Lex} (h : ∀ i u, (lexLay.enc x)[i]? = some u → w.cell? ⟨g, j * lexLay.k + i, none⟩ = some u) :
    w.cell? ⟨g, j * 4, none⟩ = some (.int .i64 x.k) ∧ w.cell? ⟨g, j * 4 + 1, none⟩ = some (.string x.t) ∧ w.cell? ⟨g, j * 4 + 2, none⟩ = some (.int .i64 x.n) ∧ w.cell? ⟨g, j * 4 + 3, none⟩ = some (.int .i64 x.a) :=
  ⟨h 0 _ rfl, h 1 _ rfl, h 2 _ rfl, h 3 _ rfl⟩
def eps2 : List (UInt8 × ByteArray) := [(34, ⟨#[92, 34]⟩), (92, ⟨#[92, 92]⟩)]
theorem eps2_rep (l : List UInt8) : repA eps2 l = l.flatMap escC := by
  have h0 : ∀ n : Nat, n < 256 → repP eps2 (UInt8.ofNat n) = escC (UInt8.ofNat n) := by decide +kernel
  have h : ∀ c : UInt8, repP eps2 c = escC c := fun c => by
    have := h0 c.toNat c.toNat_lt
    rwa [UInt8.ofNat_toNat] at this
  unfold repA
  induction l with
  | nil => rfl
  | cons c r ih => rw [List.flatMap_cons, List.flatMap_cons, ih, h c]
theorem esc_len (l : List UInt8) : (l.flatMap escC).length ≤ 2 * l.length := by
  induction l with
  | nil => simp
  | cons c r ih =>
    rw [List.flatMap_cons, List.length_append, List.length_cons]
    have : (escC c).length ≤ 2 := by unfold escC; split <;> (try split) <;> simp
    omega
theorem quote_mk (A : ByteArray) (l : List UInt8) (h : A.data.toList = l) : (⟨#[34]⟩ ++ A ++ ⟨#[34]⟩ : ByteArray) = toB (34 :: (l ++ [34])) := by
  have : ∀ a b : ByteArray, a.data = b.data → a = b := fun a b h => by cases a; cases b; congr 1
  apply this
  rw [ByteArray.data_append, ByteArray.data_append]
  have e : A.data = l.toArray := by rw [← h]
  rw [e]
  unfold toB
  simp
set_option maxHeartbeats 4000000 in
set_option maxRecDepth 100000 in
theorem lexText_any (s : ByteArray) (w : World) (hs : s.size ≤ 1000000) : Calls Tryz.prog 30 #[.string s] w fun e w' => e = .returned (.string (toB (textL s.data.toList))) ∧ Below w.heap.size w w' := by
  have hcells : ∀ (W : World) j (u : Value), ((inter eps2).map strV)[j]? = some u → (W.alloc (.cells ((inter eps2).map strV).toArray 9)).cell? ((⟨W.heap.size, 0, none⟩ : Addr).add j) = some u := fun W j u h => cells_new W _ _ j u h
  have hN := fun W => newRep_any W.heap.size 4 4 (inter eps2) (W.alloc (.cells ((inter eps2).map strV).toArray 9)) rfl (by decide) (hcells W) (by decide)
  have hRep := fun r B v w hrow hown => replace_any r B v eps2 s w hs (by decide) (by decide) (by decide) (by decide) (by decide) hrow hown
  rw [eps2_rep] at hRep
  have hl := esc_len s.data.toList
  rw [dataL] at hl
  obtain ⟨A, hAe, hAd, hAs⟩ := arrE (s.data.toList.flatMap escC)
  rw [← hAe] at hRep
  have hAl : A.size ≤ 2000000 := by omega
  have HA := Lib.hid (quote_mk A _ hAd)
  have HN := Lib.hid hN
  have HRep := Lib.hid hRep
  clear hN hRep hcells hl hAe hAd hAs
  go_enter Tryz.func30, Tryz.ntmps30
  go_wp2_with (first
    | (go_at_call 62; go_loud ((refine (HN.out w).mono ?_); rintro e w2 ⟨r, v, rfl, hrow, hown, hr, hb2⟩))
    | (go_at_call 63; go_loud ((refine (HRep.out r _ v _ hrow hown).mono ?_); rintro e w3 ⟨rfl, hb3⟩)))
  go_ret
  have ha : w.heap.size ≤ (w.alloc (.cells ((inter eps2).map strV).toArray 9)).heap.size := by simp
  exact ⟨by show Ending.returned (.string (⟨#[34]⟩ ++ A ++ ⟨#[34]⟩)) = _; rw [HA.out]; rfl, (((Below.refl w.heap.size w).alloc (Nat.le_refl _) (.cells ((inter eps2).map strV).toArray 9)).trans (hb2.mono ha)).trans (hb3.mono (Nat.le_trans ha hr))⟩
end Go.Proofs.YtgimgkjggaijoaaGreatDoor
