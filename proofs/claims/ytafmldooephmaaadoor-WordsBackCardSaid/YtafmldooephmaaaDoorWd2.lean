/- Walks: words: word. -/
import Derived.Test.YtafmldooephmaaaDoorWd1
import Derived.Test.YtafmldooephmaaaDoorWdR
namespace Go.Proofs.YtafmldooephmaaaDoor
open Go.RowKit Pk U8 Cs Wd

theorem split_few (R : ByteArray) (w : World) (m : Int) (hm : w.cell? ⟨2, 0, none⟩ = some (.int .i64 m)) (hR : R.size ≤ 3000000) (h : (Lib.splitB ⟨#[63]⟩ 0 (min 4 (R.size + 1) - 1) R).length < 4) :
    Calls Tryd.prog 35 #[.string R, .string ⟨#[63]⟩, .int .i64 4] w fun e w' => (∃ n c : Nat, n < 4 ∧ e = .returned (.slice (some ⟨w.heap.size, 0, none⟩) n c)) ∧ Below w.heap.size w w' := by
  refine (Tryd.strings_SplitN R ⟨#[63]⟩ 4 m w (by omega) hm (by decide) (by decide) (by decide)).mono fun e w' ⟨h1, h2⟩ => ⟨⟨_, _, h, h1⟩, ?_⟩
  rw [h2]
  exact (Below.refl _ _).alloc (Nat.le_refl _) _
/-- the four pieces -/
structure Four (w : World) (g : Nat) (p0 p1 p2 p3 : ByteArray) : Prop where
  c0 : w.cell? ⟨g, 0, none⟩ = some (.string p0)
  c1 : w.cell? ⟨g, 1, none⟩ = some (.string p1)
  c2 : w.cell? ⟨g, 2, none⟩ = some (.string p2)
  c3 : w.cell? ⟨g, 3, none⟩ = some (.string p3)
theorem Four.below {w w' : World} {g C : Nat} {p0 p1 p2 p3 : ByteArray} (h : Four w g p0 p1 p2 p3) (hb : Below C w w') (hC : g < C) : Four w' g p0 p1 p2 p3 := by
  have e : ∀ j, w'.cell? ⟨g, j, none⟩ = w.cell? ⟨g, j, none⟩ := fun j => by unfold World.cell?; rw [hb.block g hC]
  exact ⟨(e 0).trans h.c0, (e 1).trans h.c1, (e 2).trans h.c2, (e 3).trans h.c3⟩
theorem split_four (R : ByteArray) (w : World) (m : Int) (hm : w.cell? ⟨2, 0, none⟩ = some (.int .i64 m)) (hR : R.size ≤ 3000000) (p0 p1 p2 p3 : ByteArray) (h : Lib.splitB ⟨#[63]⟩ 0 (min 4 (R.size + 1) - 1) R = [p0, p1, p2, p3]) (h3 : 3 ≤ R.size) :
    Calls Tryd.prog 35 #[.string R, .string ⟨#[63]⟩, .int .i64 4] w fun e w' => e = .returned (.slice (some ⟨w.heap.size, 0, none⟩) 4 4) ∧ Four w' w.heap.size p0 p1 p2 p3 ∧ Below w.heap.size w w' ∧ w.heap.size < w'.heap.size := by
  refine (Tryd.strings_SplitN R ⟨#[63]⟩ 4 m w (by omega) hm (by decide) (by decide) (by decide)).mono fun e w' ⟨h1, h2⟩ => ?_
  have hk : min 4 (R.size + 1) = 4 := by omega
  rw [h, hk] at h1 h2
  have hw : w' = w.alloc (.cells #[.string p0, .string p1, .string p2, .string p3] 9) := h2
  have hc := cells_new w [.string p0, .string p1, .string p2, .string p3] 9
  rw [hw]
  refine ⟨h1, ⟨?_, ?_, ?_, ?_⟩, (Below.refl _ _).alloc (Nat.le_refl _) _, by simp⟩
  · have := hc 0 _ rfl; rwa [Addr.add_lit] at this
  · have := hc 1 _ rfl; rwa [Addr.add_lit] at this
  · have := hc 2 _ rfl; rwa [Addr.add_lit] at this
  · have := hc 3 _ rfl; rwa [Addr.add_lit] at this
theorem trimC (s : ByteArray) (r : List UInt8) (w : World) (h : Lib.hasPrefix s.data.toList [61, 63] = true) (h2 : Lib.trimPrefix s.data.toList [61, 63] = r) (R : ByteArray) (hR : R = ⟨r.toArray⟩) :
    Calls Tryd.prog 34 #[.string s, .string ⟨#[61, 63]⟩] w fun e w' => e = .returned (.tuple #[.string R, .bool true]) ∧ w' = w := by
  have hc := Tryd.strings_CutPrefix s ⟨#[61, 63]⟩ w
  rw [show (⟨#[61, 63]⟩ : ByteArray).data.toList = [61, 63] from rfl, h, h2, ← hR] at hc
  exact hc
set_option maxHeartbeats 2000000 in
set_option maxRecDepth 100000 in
theorem word_few (s R : ByteArray) (w : World) (hw : Rdy w) (hs : s.size ≤ 3000000) (r : List UInt8) (hp : Lib.hasPrefix s.data.toList [61, 63] = true) (ht : Lib.trimPrefix s.data.toList [61, 63] = r) (hR : R = ⟨r.toArray⟩) (hl : R.size ≤ s.size) (hr : s.data.toList = 61 :: 63 :: R.data.toList)
    (h : (Lib.splitB ⟨#[63]⟩ 0 (min 4 (R.size + 1) - 1) R).length < 4) (hf : few R.data.toList) : Calls Tryd.prog 15 #[.string s] w (WordIs s w) := by
  have hfin : ∀ w', Below w.heap.size w w' → Hid (WordIs s w (.returned (.tuple #[.string ⟨#[]⟩, .int .i64 0])) w') := fun w' hb => by
    show WordIs _ _ _ _
    unfold WordIs
    rw [hr, frontT_none (frontS_few hf)]
    exact ⟨rfl, hb⟩
  obtain ⟨m, hm⟩ := hw.max
  have HC := Lib.hid (trimC s r w hp ht R hR)
  have HS := Lib.hid (split_few R w m hm (by omega) h)
  clear hp ht hR hr h hf hm hw
  go_enter Tryd.func15, Tryd.ntmps15
  go_wp2_with (first
    | (go_at_call 34; (with_reducible refine (HC.out).mono ?_); rintro e w1 ⟨rfl, rfl⟩)
    | (go_at_call 35; (with_reducible refine (HS.out).mono ?_); rintro e w2 ⟨⟨n, c, hn, rfl⟩, hb2⟩))
  go_ret2
  exact (hfin _ hb2).out
set_option maxHeartbeats 2000000 in
set_option maxRecDepth 100000 in
theorem word_bad (s R p0 p1 p2 p3 : ByteArray) (w : World) (hw : Rdy w) (hs : s.size ≤ 3000000) (r : List UInt8) (hp : Lib.hasPrefix s.data.toList [61, 63] = true) (ht : Lib.trimPrefix s.data.toList [61, 63] = r) (hR : R = ⟨r.toArray⟩) (hl : R.size ≤ s.size)
    (h : Lib.splitB ⟨#[63]⟩ 0 (min 4 (R.size + 1) - 1) R = [p0, p1, p2, p3]) (h3 : 3 ≤ R.size) (hf : frontS s.data.toList = none)
    (hx : p0.size = 0 ∨ p1.size ≠ 1 ∨ p3.size = 0 ∨ (∃ h : 0 < p3.size, p3[0].toNat ≠ 61) ∨ 0 ≤ Lib.indexByte p0.data.toList 61) : Calls Tryd.prog 15 #[.string s] w (WordIs s w) := by
  have hfin : ∀ w', Below w.heap.size w w' → Hid (WordIs s w (.returned (.tuple #[.string ⟨#[]⟩, .int .i64 0])) w') := fun w' hb => by
    show WordIs _ _ _ _
    unfold WordIs
    rw [frontT_none hf]
    exact ⟨rfl, hb⟩
  obtain ⟨m, hm⟩ := hw.max
  have HC := Lib.hid (trimC s r w hp ht R hR)
  have HS := Lib.hid (split_four R w m hm (by omega) p0 p1 p2 p3 h h3)
  have hK := fun w => Tryd.strings_Contains_one p0 61 w
  obtain ⟨cb, hcb⟩ : ∃ b, b = decide (0 ≤ Lib.indexByte p0.data.toList 61) := ⟨_, rfl⟩
  rw [← hcb] at hK
  have HK := Lib.hid hK
  clear hp ht hR h hf hm hw hK
  by_cases k0 : p0.size = 0
  · have e0 := strC_nil k0
    clear hx hcb
    go_enter Tryd.func15, Tryd.ntmps15
    go_wp2_with (first
      | (go_at_call 34; (with_reducible refine (HC.out).mono ?_); rintro e w1 ⟨rfl, rfl⟩)
      | (go_at_call 35; (with_reducible refine (HS.out).mono ?_); rintro e w2 ⟨rfl, ⟨c0, c1, c2, c3⟩, hb2, hz2⟩))
    go_ret2
    exact (hfin _ hb2).out
  · have e0 := strC_ne (S := p0) (by omega)
    by_cases k1 : p1.size ≠ 1
    · have d1 : ((p1.size : Int) != 1) = true := by simp; omega
      clear hx hcb
      go_enter Tryd.func15, Tryd.ntmps15
      go_wp2_with (first
        | (go_at_call 34; (with_reducible refine (HC.out).mono ?_); rintro e w1 ⟨rfl, rfl⟩)
        | (go_at_call 35; (with_reducible refine (HS.out).mono ?_); rintro e w2 ⟨rfl, ⟨c0, c1, c2, c3⟩, hb2, hz2⟩))
      go_ret2
      exact (hfin _ hb2).out
    · have k1' : p1.size = 1 := by omega
      have d1 : ((p1.size : Int) != 1) = false := by rw [k1']; rfl
      by_cases k3 : p3.size = 0
      · have e3 := strC_nil k3
        clear hx hcb
        go_enter Tryd.func15, Tryd.ntmps15
        go_wp2_with (first
          | (go_at_call 34; (with_reducible refine (HC.out).mono ?_); rintro e w1 ⟨rfl, rfl⟩)
          | (go_at_call 35; (with_reducible refine (HS.out).mono ?_); rintro e w2 ⟨rfl, ⟨c0, c1, c2, c3⟩, hb2, hz2⟩))
        go_ret2
        exact (hfin _ hb2).out
      · have k3' : 0 < p3.size := by omega
        have e3 := strC_ne (S := p3) k3'
        by_cases k4 : p3[0].toNat = 61
        · have d4 : ((p3[0].toNat : Int) != 61) = false := by simp; omega
          have hcb' : cb = true := by
            rw [hcb]
            rcases hx with hx | hx | hx | ⟨_, hx⟩ | hx
            · exact absurd hx k0
            · exact absurd hx k1
            · exact absurd hx k3
            · exact absurd k4 hx
            · exact decide_eq_true hx
          subst hcb'
          clear hx hcb
          go_enter Tryd.func15, Tryd.ntmps15
          go_wp2_with (first
            | (go_at_call 34; (with_reducible refine (HC.out).mono ?_); rintro e w1 ⟨rfl, rfl⟩)
            | (go_at_call 35; (with_reducible refine (HS.out).mono ?_); rintro e w2 ⟨rfl, ⟨c0, c1, c2, c3⟩, hb2, hz2⟩)
            | (go_at_call 36; (with_reducible refine (HK.out _).mono ?_); rintro e w3 ⟨rfl, rfl⟩))
          go_ret2
          exact (hfin _ hb2).out
        · have d4 : ((p3[0].toNat : Int) != 61) = true := by simp; omega
          clear hx hcb
          go_enter Tryd.func15, Tryd.ntmps15
          go_wp2_with (first
            | (go_at_call 34; (with_reducible refine (HC.out).mono ?_); rintro e w1 ⟨rfl, rfl⟩)
            | (go_at_call 35; (with_reducible refine (HS.out).mono ?_); rintro e w2 ⟨rfl, ⟨c0, c1, c2, c3⟩, hb2, hz2⟩))
          go_ret2
          exact (hfin _ hb2).out
end Go.Proofs.YtafmldooephmaaaDoor
