/- Walks: token: Quote. -/
import Derived.Test.YtilccofdphohiaaGreatDoorTk7
import Derived.Test.YtilccofdphohiaaGreatDoorRepE
namespace Go.Proofs.YtilccofdphohiaaGreatDoor
open Go.RowKit Pk Tk Su Fo Rp

def qps : List (UInt8 × ByteArray) := [(92, ⟨#[92, 92]⟩), (34, ⟨#[92, 34]⟩), (10, ⟨#[92, 10]⟩), (13, ⟨#[92, 13]⟩)]
theorem qps_rep (l : List UInt8) : repA qps l = repL l := by
  unfold repA repL
  congr 1
  funext c
  have h : ∀ n : Nat, n < 256 → repP qps (UInt8.ofNat n) = esc (UInt8.ofNat n) := by decide +kernel
  have := h c.toNat c.toNat_lt
  rwa [UInt8.ofNat_toNat] at this
set_option maxHeartbeats 4000000 in
set_option maxRecDepth 100000 in
theorem quote_any (s : ByteArray) (w : World) (m : Int) (hm : w.cell? ⟨0, 0, none⟩ = some (.int .i64 m)) (hs : s.size ≤ 1000000) : Calls Tryz.prog 42 #[.string s] w (StrIs (quoteL s.data.toList) w) := by
  have hp := plain_any s w m hm (by omega)
  cases hq : plainQ s.data.toList with
  | true =>
    rw [hq] at hp
    have HP := Lib.hid hp
    have hpost : Hid (∀ w', Below w.heap.size w w' → StrIs (quoteL s.data.toList) w (.returned (.string s)) w') := fun w' hb => by
      unfold StrIs quoteL
      rw [if_pos hq]
      exact ⟨by simp, hb⟩
    clear hp hq hm
    go_enter Tryz.func42, Tryz.ntmps42
    go_wp2_with (go_at_call 68; (with_reducible refine HP.out.mono ?_); rintro e w1 ⟨rfl, hb1⟩)
    go_ret
    exact hpost.out _ hb1
  | false =>
    rw [hq] at hp
    have HP := Lib.hid hp
    obtain ⟨R, hR, hRd, hRs⟩ := arrE (repL s.data.toList)
    have hlen := (rep_length s.data.toList).2
    rw [dataL] at hlen
    have hRz : R.size ≤ 2000000 := by omega
    have hpost : Hid (∀ w', Below w.heap.size w w' → StrIs (quoteL s.data.toList) w (.returned (.string (⟨#[34]⟩ ++ R ++ ⟨#[34]⟩))) w') := fun w' hb => by
      unfold StrIs quoteL
      rw [if_neg (by rw [hq]; decide)]
      refine ⟨?_, hb⟩
      congr 2
      have e1 : (⟨#[34]⟩ ++ R ++ ⟨#[34]⟩ : ByteArray).data.toList = 34 :: repL s.data.toList ++ [34] := by rw [ByteArray.data_append, ByteArray.data_append, Array.toList_append, Array.toList_append, hRd]; rfl
      generalize (⟨#[34]⟩ ++ R ++ ⟨#[34]⟩ : ByteArray) = X at *
      obtain ⟨⟨l⟩⟩ := X
      have e1 : l = _ := e1
      rw [e1]
    have hcells : ∀ (W : World) j (u : Value), ((inter qps).map strV)[j]? = some u → (W.alloc (.cells ((inter qps).map strV).toArray 9)).cell? ((⟨W.heap.size, 0, none⟩ : Addr).add j) = some u := fun W j u h => cells_new W _ _ j u h
    have hN := fun W => newRep_any W.heap.size 8 8 (inter qps) (W.alloc (.cells ((inter qps).map strV).toArray 9)) rfl (by decide) (hcells W) (by decide)
    have hRep := fun r B v w hrow hown => replace_any r B v qps s w hs (by decide) (by decide) (by decide) (by decide) (by decide) hrow hown
    rw [qps_rep, ← hR] at hRep
    have HN := Lib.hid hN
    have HRep := Lib.hid hRep
    have g1 : (⟨#[34]⟩ ++ R : ByteArray).size = R.size + 1 := by rw [ByteArray.size_append]; show 1 + R.size = _; omega
    have g2 : (⟨#[34]⟩ ++ R ++ ⟨#[34]⟩ : ByteArray).size = R.size + 2 := by rw [ByteArray.size_append, g1]; rfl
    clear hp hq hm hN hRep hcells hRd hRs hR hlen
    go_enter Tryz.func42, Tryz.ntmps42
    go_wp2_with (first
      | (go_at_call 68; (with_reducible refine HP.out.mono ?_); rintro e w1 ⟨rfl, hb1⟩)
      | (go_at_call 40; go_loud ((refine (HN.out w1).mono ?_); rintro e w2 ⟨r, v, rfl, hrow, hown, hr, hb2⟩))
      | (go_at_call 41; go_loud ((refine (HRep.out r _ v _ hrow hown).mono ?_); rintro e w3 ⟨rfl, hb3⟩)))
    go_ret
    have hz := hb1.size
    have ha : w1.heap.size ≤ (w1.alloc (.cells ((inter qps).map strV).toArray 9)).heap.size := heap_size_alloc_le _ _
    have hb4 := (((Below.refl w1.heap.size w1).alloc (Nat.le_refl _) (.cells ((inter qps).map strV).toArray 9)).trans (hb2.mono ha)).trans (hb3.mono (Nat.le_trans ha hr))
    exact hpost.out _ (hb1.trans (hb4.mono hz))
end Go.Proofs.YtilccofdphohiaaGreatDoor
