/- Walks: words: seen, blank, word. Walks: words: word. Walks: words: word, where all pieces stand. Walks: words: word, whole. Walks: words: Decode. -/
import Derived.Test.YtnclbbgdfaeilaaGreatDoorWdA
import Derived.Test.YtnclbbgdfaeilaaGreatDoorCsX
import Derived.Test.YtnclbbgdfaeilaaGreatDoorCod6g
import Derived.Test.YtnclbbgdfaeilaaGreatDoorSubPP
import Derived.WalkMore
import Derived.Deep.LoopGhost
namespace Go.Proofs.YtnclbbgdfaeilaaGreatDoor
open Go.RowKit Pk U8 Cs Wd

set_option maxRecDepth 100000 in
theorem wseen_any (c : UInt8) (w : World) : Calls Tryz.prog 68 #[.int .u8 c.toNat] w fun e w' => e = .returned (.bool (vis c)) ∧ w = w' := by
  have hc := c.toNat_lt
  by_cases h1 : 32 < c.toNat
  · have e : vis c = decide ((c.toNat : Int) < 127) := by unfold vis; rw [decide_eq_true h1, Bool.true_and]; exact decide_eq_decide.2 (by omega)
    rw [e]
    clear e
    go_enter Tryz.func68, Tryz.ntmps68
    go_wp2
    go_ret
    exact ⟨rfl, rfl⟩
  · have e : vis c = false := by unfold vis; rw [decide_eq_false h1]; rfl
    rw [e]
    clear e
    go_enter Tryz.func68, Tryz.ntmps68
    go_wp2
    go_ret
    exact ⟨rfl, rfl⟩
set_option maxRecDepth 100000 in
theorem wblank_any (c : UInt8) (w : World) : Calls Tryz.prog 36 #[.int .u8 c.toNat] w fun e w' => e = .returned (.bool (Su.blk c)) ∧ w = w' := by
  have hb : Su.blk c = ((((c.toNat : Int) == 9) || ((c.toNat : Int) == 10)) || ((c.toNat : Int) == 13) || ((c.toNat : Int) == 32)) := by
    have := c.toNat_lt
    have e : ∀ n : Nat, n < 256 → Su.blk (UInt8.ofNat n) = ((((n : Int) == 9) || ((n : Int) == 10)) || ((n : Int) == 13) || ((n : Int) == 32)) := by decide +kernel
    have := e c.toNat c.toNat_lt
    simpa using this
  rw [hb]
  cases h1 : ((c.toNat : Int) == 9)
  · cases h2 : ((c.toNat : Int) == 10)
    · cases h3 : ((c.toNat : Int) == 13)
      · cases h4 : ((c.toNat : Int) == 32)
        all_goals
          go_enter Tryz.func36, Tryz.ntmps36
          go_wp2
          go_ret
          exact ⟨rfl, rfl⟩
      · go_enter Tryz.func36, Tryz.ntmps36
        go_wp2
        go_ret
        exact ⟨rfl, rfl⟩
    · go_enter Tryz.func36, Tryz.ntmps36
      go_wp2
      go_ret
      exact ⟨rfl, rfl⟩
  · go_enter Tryz.func36, Tryz.ntmps36
    go_wp2
    go_ret
    exact ⟨rfl, rfl⟩
/-- what the calls of words lean on -/
structure Rdy (w : World) : Prop where
  tabs : Tabs w
  max : ∃ m, w.cell? ⟨1, 0, none⟩ = some (.int .i64 m)
theorem Rdy.later {w w' : World} (h : Rdy w) (hb : Below w.heap.size w w') : Rdy w' := ⟨h.tabs.later hb, by obtain ⟨m, hm⟩ := h.max; exact ⟨m, cell_later hb hm⟩⟩
def WordIs (s : ByteArray) (w : World) (e : Ending) (w' : World) : Prop := e = .returned (.tuple #[.string ⟨(frontT s.data.toList).1.toArray⟩, .int .i64 (frontT s.data.toList).2]) ∧ Below w.heap.size w w'
theorem cutp (l : List UInt8) : (Lib.hasPrefix l [61, 63] = true ∧ ∃ r, l = 61 :: 63 :: r ∧ Lib.trimPrefix l [61, 63] = r) ∨ (Lib.hasPrefix l [61, 63] = false ∧ ∀ r, l ≠ 61 :: 63 :: r) := by
  unfold Lib.hasPrefix Lib.trimPrefix
  match l with
  | [] => exact .inr ⟨rfl, by simp⟩
  | [a] => exact .inr ⟨by simp [List.isPrefixOf], by simp⟩
  | a :: b :: r =>
    by_cases ha : a = 61
    · by_cases hb : b = 63
      · subst ha; subst hb
        exact .inl ⟨by simp [List.isPrefixOf], r, rfl, by simp [Lib.hasPrefix, List.isPrefixOf]⟩
      · refine .inr ⟨by simp [List.isPrefixOf, ha]; exact fun e => hb e.symm, fun r' e => ?_⟩
        injection e with e1 e2
        injection e2 with e2 e3
        exact hb e2
    · refine .inr ⟨by simp [List.isPrefixOf]; exact fun e => absurd e.symm ha, fun r' e => ?_⟩
      injection e with e1 e2
      exact ha e1
set_option maxHeartbeats 2000000 in
set_option maxRecDepth 100000 in
theorem word_no (s : ByteArray) (w : World) (h : Lib.hasPrefix s.data.toList [61, 63] = false ∧ ∀ r, s.data.toList ≠ 61 :: 63 :: r) : Calls Tryz.prog 34 #[.string s] w (WordIs s w) := by
  have hf : Hid (WordIs s w (.returned (.tuple #[.string ⟨#[]⟩, .int .i64 0])) w) := by
    unfold WordIs
    rw [frontT_none (front_other h.2)]
    exact ⟨rfl, Below.refl _ _⟩
  have hc := Tryz.strings_CutPrefix s ⟨#[61, 63]⟩ w
  rw [show (⟨#[61, 63]⟩ : ByteArray).data.toList = [61, 63] from rfl, h.1] at hc
  have HC := Lib.hid hc
  clear hc h
  go_enter Tryz.func34, Tryz.ntmps34
  go_wp2_with (go_at_call 66; (with_reducible refine (HC.out).mono ?_); rintro e w1 ⟨rfl, rfl⟩)
  go_ret2
  exact hf.out
end Go.Proofs.YtnclbbgdfaeilaaGreatDoor
namespace Go.Proofs.YtnclbbgdfaeilaaGreatDoor
open Go.RowKit Pk U8 Cs Wd

theorem split_few (R : ByteArray) (w : World) (m : Int) (hm : w.cell? ⟨1, 0, none⟩ = some (.int .i64 m)) (hR : R.size ≤ 3000000) (h : (Lib.splitB ⟨#[63]⟩ 0 (min 4 (R.size + 1) - 1) R).length < 4) :
    Calls Tryz.prog 67 #[.string R, .string ⟨#[63]⟩, .int .i64 4] w fun e w' => (∃ n c : Nat, n < 4 ∧ e = .returned (.slice (some ⟨w.heap.size, 0, none⟩) n c)) ∧ Below w.heap.size w w' := by
  refine (Tryz.strings_SplitN R ⟨#[63]⟩ 4 m w (by omega) hm (by decide) (by decide) (by decide)).mono fun e w' ⟨h1, h2⟩ => ⟨⟨_, _, h, h1⟩, ?_⟩
  rw [h2]
  exact (Below.refl _ _).alloc (Nat.le_refl _) _
/-- the four pieces -/
structure Four (w : World) (g : Nat) (p0 p1 p2 p3 : ByteArray) : Prop where
  c0 : w.cell? ⟨g, 0, none⟩ = some (.string p0)
  c1 : w.cell? ⟨g, 1, none⟩ = some (.string p1)
  c2 : w.cell? ⟨g, 2, none⟩ = some (.string p2)
  c3 : w.cell? ⟨g, 3, none⟩ = some (.string p3)
theorem Four.below {w w' : World} {g C : Nat} {p0 p1 p2 p3 : ByteArray} (h : Four w g p0 p1 p2 p3) (hb : Below C w w') (hC : g < C) : Four w' g p0 p1 p2 p3 := by
  have e : ∀ j, w'.cell? ⟨g, j, none⟩ = w.cell? ⟨g, j, none⟩ := fun j => by unfold World.cell?; rw [hb.block g hC]
  exact ⟨(e 0).trans h.c0, (e 1).trans h.c1, (e 2).trans h.c2, (e 3).trans h.c3⟩
theorem split_four (R : ByteArray) (w : World) (m : Int) (hm : w.cell? ⟨1, 0, none⟩ = some (.int .i64 m)) (hR : R.size ≤ 3000000) (p0 p1 p2 p3 : ByteArray) (h : Lib.splitB ⟨#[63]⟩ 0 (min 4 (R.size + 1) - 1) R = [p0, p1, p2, p3]) (h3 : 3 ≤ R.size) :
    Calls Tryz.prog 67 #[.string R, .string ⟨#[63]⟩, .int .i64 4] w fun e w' => e = .returned (.slice (some ⟨w.heap.size, 0, none⟩) 4 4) ∧ Four w' w.heap.size p0 p1 p2 p3 ∧ Below w.heap.size w w' ∧ w.heap.size < w'.heap.size := by
  refine (Tryz.strings_SplitN R ⟨#[63]⟩ 4 m w (by omega) hm (by decide) (by decide) (by decide)).mono fun e w' ⟨h1, h2⟩ => ?_
  have hk : min 4 (R.size + 1) = 4 := by omega
  rw [h, hk] at h1 h2
  have hw : w' = w.alloc (.cells #[.string p0, .string p1, .string p2, .string p3] 9) := h2
  have hc := cells_new w [.string p0, .string p1, .string p2, .string p3] 9
  rw [hw]
  refine ⟨h1, ⟨?_, ?_, ?_, ?_⟩, (Below.refl _ _).alloc (Nat.le_refl _) _, by simp⟩
  · have := hc 0 _ rfl; rwa [Addr.add_lit] at this
  · have := hc 1 _ rfl; rwa [Addr.add_lit] at this
  · have := hc 2 _ rfl; rwa [Addr.add_lit] at this
  · have := hc 3 _ rfl; rwa [Addr.add_lit] at this
theorem trimC (s : ByteArray) (r : List UInt8) (w : World) (h : Lib.hasPrefix s.data.toList [61, 63] = true) (h2 : Lib.trimPrefix s.data.toList [61, 63] = r) (R : ByteArray) (hR : R = ⟨r.toArray⟩) :
    Calls Tryz.prog 66 #[.string s, .string ⟨#[61, 63]⟩] w fun e w' => e = .returned (.tuple #[.string R, .bool true]) ∧ w' = w := by
  have hc := Tryz.strings_CutPrefix s ⟨#[61, 63]⟩ w
  rw [show (⟨#[61, 63]⟩ : ByteArray).data.toList = [61, 63] from rfl, h, h2, ← hR] at hc
  exact hc
set_option maxHeartbeats 2000000 in
set_option maxRecDepth 100000 in
theorem word_few (s R : ByteArray) (w : World) (hw : Rdy w) (hs : s.size ≤ 3000000) (r : List UInt8) (hp : Lib.hasPrefix s.data.toList [61, 63] = true) (ht : Lib.trimPrefix s.data.toList [61, 63] = r) (hR : R = ⟨r.toArray⟩) (hl : R.size ≤ s.size) (hr : s.data.toList = 61 :: 63 :: R.data.toList)
    (h : (Lib.splitB ⟨#[63]⟩ 0 (min 4 (R.size + 1) - 1) R).length < 4) (hf : few R.data.toList) : Calls Tryz.prog 34 #[.string s] w (WordIs s w) := by
  have hfin : ∀ w', Below w.heap.size w w' → Hid (WordIs s w (.returned (.tuple #[.string ⟨#[]⟩, .int .i64 0])) w') := fun w' hb => by
    show WordIs _ _ _ _
    unfold WordIs
    rw [hr, frontT_none (frontS_few hf)]
    exact ⟨rfl, hb⟩
  obtain ⟨m, hm⟩ := hw.max
  have HC := Lib.hid (trimC s r w hp ht R hR)
  have HS := Lib.hid (split_few R w m hm (by omega) h)
  clear hp ht hR hr h hf hm hw
  go_enter Tryz.func34, Tryz.ntmps34
  go_wp2_with (first
    | (go_at_call 66; (with_reducible refine (HC.out).mono ?_); rintro e w1 ⟨rfl, rfl⟩)
    | (go_at_call 67; (with_reducible refine (HS.out).mono ?_); rintro e w2 ⟨⟨n, c, hn, rfl⟩, hb2⟩))
  go_ret2
  exact (hfin _ hb2).out
set_option maxHeartbeats 2000000 in
set_option maxRecDepth 100000 in
theorem word_bad (s R p0 p1 p2 p3 : ByteArray) (w : World) (hw : Rdy w) (hs : s.size ≤ 3000000) (r : List UInt8) (hp : Lib.hasPrefix s.data.toList [61, 63] = true) (ht : Lib.trimPrefix s.data.toList [61, 63] = r) (hR : R = ⟨r.toArray⟩) (hl : R.size ≤ s.size)
    (h : Lib.splitB ⟨#[63]⟩ 0 (min 4 (R.size + 1) - 1) R = [p0, p1, p2, p3]) (h3 : 3 ≤ R.size) (hf : frontS s.data.toList = none)
    (hx : p0.size = 0 ∨ p1.size ≠ 1 ∨ p3.size = 0 ∨ (∃ h : 0 < p3.size, p3[0].toNat ≠ 61) ∨ 0 ≤ Lib.indexByte p0.data.toList 61) : Calls Tryz.prog 34 #[.string s] w (WordIs s w) := by
  have hfin : ∀ w', Below w.heap.size w w' → Hid (WordIs s w (.returned (.tuple #[.string ⟨#[]⟩, .int .i64 0])) w') := fun w' hb => by
    show WordIs _ _ _ _
    unfold WordIs
    rw [frontT_none hf]
    exact ⟨rfl, hb⟩
  obtain ⟨m, hm⟩ := hw.max
  have HC := Lib.hid (trimC s r w hp ht R hR)
  have HS := Lib.hid (split_four R w m hm (by omega) p0 p1 p2 p3 h h3)
  have hK := fun w => Tryz.strings_Contains_one p0 61 w
  obtain ⟨cb, hcb⟩ : ∃ b, b = decide (0 ≤ Lib.indexByte p0.data.toList 61) := ⟨_, rfl⟩
  rw [← hcb] at hK
  have HK := Lib.hid hK
  clear hp ht hR h hf hm hw hK
  by_cases k0 : p0.size = 0
  · have e0 := strC_nil k0
    clear hx hcb
    go_enter Tryz.func34, Tryz.ntmps34
    go_wp2_with (first
      | (go_at_call 66; (with_reducible refine (HC.out).mono ?_); rintro e w1 ⟨rfl, rfl⟩)
      | (go_at_call 67; (with_reducible refine (HS.out).mono ?_); rintro e w2 ⟨rfl, ⟨c0, c1, c2, c3⟩, hb2, hz2⟩))
    go_ret2
    exact (hfin _ hb2).out
  · have e0 := strC_ne (S := p0) (by omega)
    by_cases k1 : p1.size ≠ 1
    · have d1 : ((p1.size : Int) != 1) = true := by simp; omega
      clear hx hcb
      go_enter Tryz.func34, Tryz.ntmps34
      go_wp2_with (first
        | (go_at_call 66; (with_reducible refine (HC.out).mono ?_); rintro e w1 ⟨rfl, rfl⟩)
        | (go_at_call 67; (with_reducible refine (HS.out).mono ?_); rintro e w2 ⟨rfl, ⟨c0, c1, c2, c3⟩, hb2, hz2⟩))
      go_ret2
      exact (hfin _ hb2).out
    · have k1' : p1.size = 1 := by omega
      have d1 : ((p1.size : Int) != 1) = false := by rw [k1']; rfl
      by_cases k3 : p3.size = 0
      · have e3 := strC_nil k3
        clear hx hcb
        go_enter Tryz.func34, Tryz.ntmps34
        go_wp2_with (first
          | (go_at_call 66; (with_reducible refine (HC.out).mono ?_); rintro e w1 ⟨rfl, rfl⟩)
          | (go_at_call 67; (with_reducible refine (HS.out).mono ?_); rintro e w2 ⟨rfl, ⟨c0, c1, c2, c3⟩, hb2, hz2⟩))
        go_ret2
        exact (hfin _ hb2).out
      · have k3' : 0 < p3.size := by omega
        have e3 := strC_ne (S := p3) k3'
        by_cases k4 : p3[0].toNat = 61
        · have d4 : ((p3[0].toNat : Int) != 61) = false := by simp; omega
          have hcb' : cb = true := by
            rw [hcb]
            rcases hx with hx | hx | hx | ⟨_, hx⟩ | hx
            · exact absurd hx k0
            · exact absurd hx k1
            · exact absurd hx k3
            · exact absurd k4 hx
            · exact decide_eq_true hx
          subst hcb'
          clear hx hcb
          go_enter Tryz.func34, Tryz.ntmps34
          go_wp2_with (first
            | (go_at_call 66; (with_reducible refine (HC.out).mono ?_); rintro e w1 ⟨rfl, rfl⟩)
            | (go_at_call 67; (with_reducible refine (HS.out).mono ?_); rintro e w2 ⟨rfl, ⟨c0, c1, c2, c3⟩, hb2, hz2⟩)
            | (go_at_call 41; (with_reducible refine (HK.out _).mono ?_); rintro e w3 ⟨rfl, rfl⟩))
          go_ret2
          exact (hfin _ hb2).out
        · have d4 : ((p3[0].toNat : Int) != 61) = true := by simp; omega
          clear hx hcb
          go_enter Tryz.func34, Tryz.ntmps34
          go_wp2_with (first
            | (go_at_call 66; (with_reducible refine (HC.out).mono ?_); rintro e w1 ⟨rfl, rfl⟩)
            | (go_at_call 67; (with_reducible refine (HS.out).mono ?_); rintro e w2 ⟨rfl, ⟨c0, c1, c2, c3⟩, hb2, hz2⟩))
          go_ret2
          exact (hfin _ hb2).out
end Go.Proofs.YtnclbbgdfaeilaaGreatDoor
namespace Go.Proofs.YtnclbbgdfaeilaaGreatDoor
open Go.RowKit Pk U8 Cs Wd

def fB : Value := .func (.func 69) #[] #[]
def fQ : Value := .func (.func 70) #[] #[]
def kvsW : List (ByteArray × Value) := [(⟨#[66]⟩, fB), (⟨#[98]⟩, fB), (⟨#[81]⟩, fQ), (⟨#[113]⟩, fQ)]
theorem get_how (c : UInt8) : mapGet ⟨#[c]⟩ .nilFunc kvsW = if c = 66 ∨ c = 98 then fB else if c = 81 ∨ c = 113 then fQ else .nilFunc := by
  have e : ∀ d : UInt8, ((⟨#[c]⟩ : ByteArray) == ⟨#[d]⟩) = decide (c = d) := fun d => by
    have := ba_beq [c] [d]
    simpa using this
  simp only [kvsW, mapGet, e, decide_eq_true_eq]
  by_cases h1 : c = 66
  · simp [h1]
  · by_cases h2 : c = 98
    · simp [h2]
    · by_cases h3 : c = 81
      · simp [h3]
      · by_cases h4 : c = 113
        · simp [h4]
        · simp [h1, h2, h3, h4]
structure WP (w W : World) (g r : Nat) (p0 p1 p2 p3 : ByteArray) (kvs : List (ByteArray × Value)) : Prop where
  map : mapIs W r kvs
  four : Four W g p0 p1 p2 p3
  bel : Below w.heap.size w W
  n : g < r
  hr : w.heap.size ≤ g
theorem WP.start {w W : World} {g : Nat} {p0 p1 p2 p3 : ByteArray} (h : Four W g p0 p1 p2 p3) (hb : Below w.heap.size w W) (hg : g < W.heap.size) (hr : w.heap.size ≤ g) : WP w (W.alloc (.map #[] 0)) g W.heap.size p0 p1 p2 p3 [] := by
  have ha : Below W.heap.size W (W.alloc (.map #[] 0)) := (Below.refl _ _).alloc (Nat.le_refl _) _
  exact ⟨mapIs_new W, h.below ha hg, hb.trans (ha.mono hb.size), hg, hr⟩
theorem four_grown {w w' : World} {r g : Nat} {p0 p1 p2 p3 : ByteArray} (h : Four w g p0 p1 p2 p3) (hg : w.grownBy w' (some r)) (hr : g ≠ r) (hb : g < w.heap.size) : Four w' g p0 p1 p2 p3 := by
  have e : ∀ j, w'.cell? ⟨g, j, none⟩ = w.cell? ⟨g, j, none⟩ := fun j => by
    unfold World.cell?
    have : w'.heap[g]? = w.heap[g]? := hg.block g hb (fun e => hr (by injection e))
    rw [this]
  exact ⟨(e 0).trans h.c0, (e 1).trans h.c1, (e 2).trans h.c2, (e 3).trans h.c3⟩
theorem WP.step {w W W' : World} {g r : Nat} {p0 p1 p2 p3 : ByteArray} {kvs kvs' : List (ByteArray × Value)} (h : WP w W g r p0 p1 p2 p3 kvs) (hm : mapIs W' r kvs') (hg : W.grownBy W' (some r)) : WP w W' g r p0 p1 p2 p3 kvs' := by
  have hl := mapIs_lt h.map
  have h1 := h.n
  have h2 := h.hr
  exact ⟨hm, four_grown h.four hg (by omega) (by omega), Below_map h.bel (by omega) hg h.bel.size, h.n, h.hr⟩
theorem eqNilW (w : World) : (binOp .eql 23 .nilFunc .nilFunc).run Tryz.prog w = .ok (.bool true) w := by kernel_rfl
theorem eqB (w : World) : (binOp .eql 23 (.func (.func 69) #[] #[]) .nilFunc).run Tryz.prog w = .ok (.bool false) w := by kernel_rfl
theorem eqQ (w : World) : (binOp .eql 23 (.func (.func 70) #[] #[]) .nilFunc).run Tryz.prog w = .ok (.bool false) w := by kernel_rfl
theorem conv_w (w : World) (s : ByteArray) : ∃ cp w2, (convert 9 46 (.string s)).run Tryz.prog w = .ok (.slice (some ⟨w.heap.size, 0, none⟩) s.size cp) w2 ∧ (∀ j (hj : j < s.size), w2.cell? ⟨w.heap.size, j, none⟩ = some (.int .u8 s[j].toNat)) ∧ Below w.heap.size w w2 ∧ w.heap.size < w2.heap.size := by
  obtain ⟨cp, w2, h1, h2, h3, h4⟩ := conv_row (P := Tryz.prog) w 9 46 5 s Tryz.underlying9 Tryz.underlying46 Tryz.underlying5
  exact ⟨cp, w2, h1, fun j hj => rowF_cell h2 j hj, h3, h4⟩
theorem ext_size (s : ByteArray) (n : Nat) (h : n ≤ s.size) : (s.extract 0 n).size = n := by rw [ByteArray.size_extract]; omega
set_option maxHeartbeats 4000000 in
set_option maxRecDepth 100000 in
theorem word_good (s R p0 p2 p3 : ByteArray) (c : UInt8) (w : World) (hw : Rdy w) (hs : s.size ≤ 3000000) (r : List UInt8) (hp : Lib.hasPrefix s.data.toList [61, 63] = true) (ht : Lib.trimPrefix s.data.toList [61, 63] = r) (hR : R = ⟨r.toArray⟩) (hl : R.size ≤ s.size)
    (h : Lib.splitB ⟨#[63]⟩ 0 (min 4 (R.size + 1) - 1) R = [p0, ⟨#[c]⟩, p2, p3]) (h3 : 3 ≤ R.size)
    (k0 : 0 < p0.size) (k3 : 0 < p3.size) (k4 : p3[0].toNat = 61) (hcb : decide (0 ≤ Lib.indexByte p0.data.toList 61) = false)
    (N : Nat) (hN : N = 7 + p0.size + p2.size) (hNs : N ≤ s.size)
    (hbad : ∀ j (hj : j < s.size), j < N → vis s[j] = false → frontT s.data.toList = ([], 0))
    (hgood : (∀ j (hj : j < s.size), j < N → vis s[j] = true) → frontT s.data.toList = if howOK c = true then (decCS p0.data.toList (readL c p2.data.toList), N) else ([], 0)) :
    Calls Tryz.prog 34 #[.string s] w (WordIs s w) := by
  obtain ⟨m, hm⟩ := hw.max
  have HC := Lib.hid (trimC s r w hp ht R hR)
  have HS := Lib.hid (split_four R w m hm (by omega) p0 ⟨#[c]⟩ p2 p3 h h3)
  have hK := fun w => Tryz.strings_Contains_one p0 61 w
  rw [hcb] at hK
  have HK := Lib.hid hK
  have HT := Lib.hid hw.tabs
  have HM := Lib.hid hm
  have e0 := strC_ne (S := p0) k0
  have e3 := strC_ne (S := p3) k3
  have d4 : ((p3[0].toNat : Int) != 61) = false := by simp; omega
  obtain ⟨x1, hx1⟩ : ∃ x : Int, IntKind.i64.wrap (2 + (p0.size : Int)) = x ∧ x = 2 + p0.size := ⟨_, rfl, w64 rfl (by omega) (by omega)⟩
  obtain ⟨x2, hx2⟩ : ∃ x : Int, IntKind.i64.wrap (x1 + 1) = x ∧ x = x1 + 1 := ⟨_, rfl, w64 rfl (by omega) (by omega)⟩
  obtain ⟨x3, hx3⟩ : ∃ x : Int, IntKind.i64.wrap (x2 + 1) = x ∧ x = x2 + 1 := ⟨_, rfl, w64 rfl (by omega) (by omega)⟩
  obtain ⟨x4, hx4⟩ : ∃ x : Int, IntKind.i64.wrap (x3 + 1) = x ∧ x = x3 + 1 := ⟨_, rfl, w64 rfl (by omega) (by omega)⟩
  obtain ⟨x5, hx5⟩ : ∃ x : Int, IntKind.i64.wrap (x4 + (p2.size : Int)) = x ∧ x = x4 + p2.size := ⟨_, rfl, w64 rfl (by omega) (by omega)⟩
  have hx6 : IntKind.i64.wrap (x5 + 2) = (N : Int) := w64 (by omega) (by omega) (by omega)
  have W1 := hx1.1; have W2 := hx2.1; have W3 := hx3.1; have W4 := hx4.1; have W5 := hx5.1
  have hp2 : p2.size ≤ 3000000 := by omega
  have hp0 : p0.size ≤ 3000000 := by omega
  have hNb : N ≤ 3000000 := by omega
  clear hx1 hx2 hx3 hx4 hx5 hp ht hR h hm hw hK hcb hN k4
  have HB := Lib.hid hbad
  have HG := Lib.hid hgood
  have HGH := Lib.hid (get_how c)
  clear hbad hgood
  go_enter Tryz.func34, Tryz.ntmps34
  go_wp2_with (first
    | (go_at_call 66; (with_reducible refine (HC.out).mono ?_); rintro e w1 ⟨rfl, hw1⟩; subst w1)
    | (go_at_call 67; (with_reducible refine (HS.out).mono ?_); rintro e w2 ⟨rfl, hF, hb2, hz2⟩; have c0 := hF.c0; have c1 := hF.c1; have c2 := hF.c2; have c3 := hF.c3; obtain ⟨cp, w3, hcv, hcells, hb3, hz3⟩ := conv_w w2.drew (s.extract 0 N); rw [ext_size s N hNs] at hcv)
    | (go_at_call 41; (with_reducible refine (HK.out _).mono ?_); rintro e w5 ⟨rfl, hw5⟩; subst w5))
  go_region
  go_wp2
  have hXs : (s.extract 0 N).size = N := by rw [ByteArray.size_extract]; omega
  have hXg : ∀ j (hj : j < (s.extract 0 N).size), (s.extract 0 N)[j] = s[j]'(by omega) := fun j hj => by
    rw [ByteArray.getElem_extract]; congr 1; omega
  have HCE : Hid (∀ j (hj : j < N), w3.cell? ⟨w2.heap.size, j, none⟩ = some (.int .u8 (s[j]'(by omega)).toNat)) := fun j hj => by
    rw [← hXg j (by omega)]; exact hcells j (by omega)
  have hF3 : Four w3 w.heap.size p0 ⟨#[c]⟩ p2 p3 := Four.below (w := w2.drew) ⟨hF.c0, hF.c1, hF.c2, hF.c3⟩ hb3 hz2
  have tb : Below w.heap.size w w3 := hb2.drew.trans (hb3.mono hb2.size)
  have hsz3 := tb.size
  have hgz : w.heap.size < w3.heap.size := Nat.lt_of_lt_of_le hz2 hb3.size
  clear hXg hcells hF c0 c1 c2 c3 hb2 hb3
  go_loopw [3, 73] (fun nv i wr => ∃ (k : Nat), nv = .int .i64 N ∧ i = .int .i64 k ∧ wr = w3 ∧ k ≤ N ∧ Hid (∀ j (hj : j < s.size), j < k → vis s[j] = true)) (fun _ i _ => N - (intOf i).toNat)
  case atStart => exact ⟨0, rfl, by first | rfl | trivial, rfl, by omega, fun j hj h => absurd h (by omega)⟩
  case round =>
    obtain ⟨k, rfl, rfl, rfl, hk, hrel⟩ := hrel
    by_cases hlt : k < N
    · have hks : k < s.size := by omega
      have hck := HCE.out k hlt
      have hSn := wseen_any (s[k]'hks)
      have hbk := HB.out k hks hlt
      have hstep : vis s[k] = true → Hid (∀ j (hj : j < s.size), j < k + 1 → vis s[j] = true) := fun hv j hj hlt2 => by
        by_cases e : j = k
        · subst e; exact hv
        · exact hrel.out j hj (by omega)
      generalize s[k]'hks = ck at hck hSn hbk hstep
      have HSN := Lib.hid hSn
      clear hSn
      cases hv : vis ck with
      | true =>
        have hd := hstep hv
        rw [hv] at HSN
        clear hstep hrel hbk hv
        go_wp2_with (go_at_call 68; (with_reducible refine (HSN.out _).mono ?_); rintro e w5 ⟨rfl, rfl⟩)
        go_roundw
        case rel => exact ⟨k + 1, rfl, by go_num, by first | rfl | trivial, by omega, hd⟩
        case measure => simp [intOf]; omega
      | false =>
        have hd : Hid (frontT s.data.toList = ([], 0)) := hbk hv
        rw [hv] at HSN
        clear hstep hrel hbk hv
        go_wp2_with (go_at_call 68; (with_reducible refine (HSN.out _).mono ?_); rintro e w5 ⟨rfl, rfl⟩)
        go_ret2
        unfold WordIs
        rw [hd.out]
        exact ⟨rfl, tb⟩
    · obtain rfl : k = N := by omega
      have hfin := HG.out fun j hj hlt2 => hrel.out j hj hlt2
      have hp := WP.start hF3 tb hgz (Nat.le_refl _)
      have hmm := @run_makeMap Tryz.prog
      have q0 := eqNilW
      have q1 := eqB
      have q2 := eqQ
      have HZ := Lib.hid zeroF
      have hU64 := Lib.hid fun w' (hb : Below w.heap.size w w') => unB64P_any p2 w' m (by omega) (cell_later hb HM.out)
      have hUQ := Lib.hid fun w' (hb : Below w.heap.size w w') => unQP_any p2 w' m (by omega) (cell_later hb HM.out)
      have hGH := HGH.out
      clear hrel HB HG HCE hF3 tb HS HC HK e0 e3 d4 W1 W2 W3 W4 W5 hx6 HM
      by_cases h64 : c = 66 ∨ c = 98
      · have hh : howOK c = true := by rcases h64 with rfl | rfl <;> rfl
        rw [if_pos h64] at hGH
        unfold fB at hGH
        have hG : Hid (mapGet ⟨#[c]⟩ .nilFunc kvsW = .func (.func 69) #[] #[]) := hGH
        rw [if_pos hh] at hfin
        have hrd : readL c p2.data.toList = C6.unB64R p2.data.toList := by unfold readL; rw [if_pos h64]
        rw [hrd] at hfin
        obtain ⟨B, hB, hBl, hBs⟩ := arr_ex (C6.unB64R p2.data.toList)
        have hBn : B.size ≤ 3000000 := by
          have h1 := duR_length (C6.dR p2.data.toList)
          have h2 := C6.dR_length p2.data.toList
          have h3 : p2.data.toList.length = p2.size := rfl
          unfold C6.unB64R at hBs
          omega
        rw [← hBl] at hfin
        have hU := hU64.out
        rw [← hB] at hU
        have HU := Lib.hid hU
        have HD := Lib.hid fun w' (hb : Below w.heap.size w w') => decodeP_any p0 B w' (HT.out.later hb) hp0 hBn
        have HF := Lib.hid hfin
        clear hfin hrd hU hB hBl hBs hGH hU64 hUQ HGH h64
        go_wp2_with (first
          | (refine wpList_insert_map _ rfl (.tmp 81) _ _ _ rfl _ _ Tryz.underlying99 Tryz.underlying9 _ _ rfl hp.map _ rfl (by kernel_rfl) ?_; intro w4 hm4 hg4; have hp := hp.step hm4 hg4; have c0 := hp.four.c0; have c1 := hp.four.c1; have c2 := hp.four.c2; clear hm4 hg4))
        have hlk : (Instr.lookup 99 (.map (some wr.heap.size)) (.string ⟨#[c]⟩) false).run Tryz.prog _ = .ok _ _ := (run_lookup_map (P := Tryz.prog) hp.map Tryz.underlying99 Tryz.underlying9 ⟨#[c]⟩ .nilFunc (HZ.out _)).trans (congrArg (fun v => Result.ok v _) hG.out)
        rw [hlk]
        go_wp2
        have hbd := hp.bel.drew
        go_region_with (first
          | (go_at_call 69; (with_reducible refine (HU.out _ hbd).mono ?_); rintro e w5 ⟨rfl, hb5⟩; have c0' := cell_later hb5 c0; have tb5 := hbd.trans (hb5.mono hbd.size))
          | (go_at_call 71; (with_reducible refine (HD.out _ tb5).mono ?_); rintro e w6 ⟨⟨b, rfl⟩, hb6⟩; have tb6 := tb5.trans (hb6.mono tb5.size)))
        all_goals
          go_wp2
          go_ret2
          unfold WordIs
          rw [HF.out]
          exact ⟨rfl, tb6⟩
      · by_cases hq : c = 81 ∨ c = 113
        · have hh : howOK c = true := by rcases hq with rfl | rfl <;> rfl
          rw [if_neg h64, if_pos hq] at hGH
          unfold fQ at hGH
          have hG : Hid (mapGet ⟨#[c]⟩ .nilFunc kvsW = .func (.func 70) #[] #[]) := hGH
          rw [if_pos hh] at hfin
          have hrd : readL c p2.data.toList = C6.unQR p2.data.toList := by unfold readL; rw [if_neg h64]
          rw [hrd] at hfin
          obtain ⟨B, hB, hBl, hBs⟩ := arr_ex (C6.unQR p2.data.toList)
          have hBn : B.size ≤ 3000000 := by
            have h1 := C6.escR_length (C6.unblank p2.data.toList)
            have h2 : (C6.unblank p2.data.toList).length = p2.data.toList.length := by unfold C6.unblank; simp
            have h3 : p2.data.toList.length = p2.size := rfl
            unfold C6.unQR at hBs
            omega
          rw [← hBl] at hfin
          have hU := hUQ.out
          rw [← hB] at hU
          have HU := Lib.hid hU
          have HD := Lib.hid fun w' (hb : Below w.heap.size w w') => decodeP_any p0 B w' (HT.out.later hb) hp0 hBn
          have HF := Lib.hid hfin
          clear hfin hrd hU hB hBl hBs hGH hU64 hUQ HGH h64 hq
          go_wp2_with (first
            | (refine wpList_insert_map _ rfl (.tmp 81) _ _ _ rfl _ _ Tryz.underlying99 Tryz.underlying9 _ _ rfl hp.map _ rfl (by kernel_rfl) ?_; intro w4 hm4 hg4; have hp := hp.step hm4 hg4; have c0 := hp.four.c0; have c1 := hp.four.c1; have c2 := hp.four.c2; clear hm4 hg4))
          have hlk : (Instr.lookup 99 (.map (some wr.heap.size)) (.string ⟨#[c]⟩) false).run Tryz.prog _ = .ok _ _ := (run_lookup_map (P := Tryz.prog) hp.map Tryz.underlying99 Tryz.underlying9 ⟨#[c]⟩ .nilFunc (HZ.out _)).trans (congrArg (fun v => Result.ok v _) hG.out)
          rw [hlk]
          go_wp2
          have hbd := hp.bel.drew
          go_region_with (first
            | (go_at_call 70; (with_reducible refine (HU.out _ hbd).mono ?_); rintro e w5 ⟨rfl, hb5⟩; have c0' := cell_later hb5 c0; have tb5 := hbd.trans (hb5.mono hbd.size))
            | (go_at_call 71; (with_reducible refine (HD.out _ tb5).mono ?_); rintro e w6 ⟨⟨b, rfl⟩, hb6⟩; have tb6 := tb5.trans (hb6.mono tb5.size)))
          all_goals
            go_wp2
            go_ret2
            unfold WordIs
            rw [HF.out]
            exact ⟨rfl, tb6⟩
        · have hh : howOK c = false := by
            cases he : howOK c with
            | false => rfl
            | true =>
              rcases howOK_cases he with rfl | rfl | rfl | rfl
              · exact absurd (.inl rfl) h64
              · exact absurd (.inr rfl) h64
              · exact absurd (.inl rfl) hq
              · exact absurd (.inr rfl) hq
          rw [if_neg h64, if_neg hq] at hGH
          have hG : Hid (mapGet ⟨#[c]⟩ .nilFunc kvsW = .nilFunc) := hGH
          rw [hh, if_neg (by decide)] at hfin
          have HF := Lib.hid hfin
          clear hfin hGH hU64 hUQ HGH h64 hq hh
          go_wp2_with (first
            | (refine wpList_insert_map _ rfl (.tmp 81) _ _ _ rfl _ _ Tryz.underlying99 Tryz.underlying9 _ _ rfl hp.map _ rfl (by kernel_rfl) ?_; intro w4 hm4 hg4; have hp := hp.step hm4 hg4; have c0 := hp.four.c0; have c1 := hp.four.c1; have c2 := hp.four.c2; clear hm4 hg4))
          have hlk : (Instr.lookup 99 (.map (some wr.heap.size)) (.string ⟨#[c]⟩) false).run Tryz.prog _ = .ok _ _ := (run_lookup_map (P := Tryz.prog) hp.map Tryz.underlying99 Tryz.underlying9 ⟨#[c]⟩ .nilFunc (HZ.out _)).trans (congrArg (fun v => Result.ok v _) hG.out)
          rw [hlk]
          go_wp2
          go_ret2
          unfold WordIs
          rw [HF.out]
          exact ⟨rfl, hp.bel⟩
end Go.Proofs.YtnclbbgdfaeilaaGreatDoor
namespace Go.Proofs.YtnclbbgdfaeilaaGreatDoor
open Go.RowKit Pk U8 Cs Wd

theorem ib_mem {d : UInt8} : ∀ l : List UInt8, 0 ≤ Lib.indexByte l d → d ∈ l
  | [], h => by simp [Lib.indexByte] at h
  | c :: r, h => by
    rw [Su.ib_cons] at h
    split at h
    · rename_i e; simp [e]
    · split at h
      · omega
      · have := ib_mem (d := d) r (by omega)
        simp [this]
theorem mem_ib {d : UInt8} : ∀ l : List UInt8, d ∈ l → 0 ≤ Lib.indexByte l d
  | [], h => by cases h
  | c :: r, h => by
    rw [Su.ib_cons]
    split
    · omega
    · rename_i hne
      have h2 : d ∈ r := by
        rcases List.mem_cons.1 h with e | h
        · exact absurd e.symm hne
        · exact h
      have := mem_ib r h2
      rw [if_neg (by omega)]
      omega
theorem one_byte {p : ByteArray} (h : p.size = 1) : ∃ c, p = ⟨#[c]⟩ := by
  obtain ⟨⟨l⟩⟩ := p
  match l, h with
  | [c], _ => exact ⟨c, rfl⟩
set_option maxRecDepth 100000 in
theorem word_any (s : ByteArray) (w : World) (hw : Rdy w) (hs : s.size ≤ 3000000) : Calls Tryz.prog 34 #[.string s] w (WordIs s w) := by
  rcases cutp s.data.toList with ⟨hp, r, hr, ht⟩ | hno
  · obtain ⟨R, hR, hRl, hRs⟩ := arr_ex r
    have hl : s.data.toList.length = s.size := rfl
    have hl2 : s.size = R.size + 2 := by rw [← hl, hr, hRs]; simp
    have hr' : s.data.toList = 61 :: 63 :: R.data.toList := by rw [hRl]; exact hr
    rcases pieces R with ⟨h1, h2⟩ | ⟨p0, p1, p2, p3, hsp, hparts, h3⟩
    · exact word_few s R w hw hs r hp ht hR (by omega) hr' h1 h2
    · by_cases hx : p0.size = 0 ∨ p1.size ≠ 1 ∨ p3.size = 0 ∨ (∃ h : 0 < p3.size, p3[0].toNat ≠ 61) ∨ 0 ≤ Lib.indexByte p0.data.toList 61
      · refine word_bad s R p0 p1 p2 p3 w hw hs r hp ht hR (by omega) hsp h3 ?_ hx
        rw [hr']
        cases hf : frontS (61 :: 63 :: R.data.toList) with
        | none => rfl
        | some q =>
          obtain ⟨cs, how, tx⟩ := q
          obtain ⟨e0, e1, e2, ⟨z, e3⟩, hne, hcs, hh, htx⟩ := front_parts hparts hf
          exfalso
          have l0 : p0.data.toList.length = p0.size := rfl
          have l1 : p1.data.toList.length = p1.size := rfl
          have l3 : p3.data.toList.length = p3.size := rfl
          rcases hx with hx | hx | hx | ⟨hlt, hx⟩ | hx
          · rw [hx] at l0
            exact hne (e0 ▸ List.eq_nil_of_length_eq_zero l0)
          · rw [e1] at l1
            exact hx l1.symm
          · rw [e3, hx] at l3
            simp at l3
          · have : p3[0] = 61 := by
              have h1 : p3.data.toList[0]? = some p3[0] := by
                rw [List.getElem?_eq_getElem (by omega)]; rfl
              rw [e3] at h1
              simpa using h1.symm
            rw [this] at hx
            exact hx rfl
          · have := ib_mem _ hx
            rw [e0] at this
            exact (csC_ne (hcs _ this)).2.1 rfl
      · have k1 : p1.size = 1 := by
          by_cases h : p1.size = 1
          · exact h
          · exact absurd (.inr (.inl h)) hx
        obtain ⟨c, rfl⟩ := one_byte k1
        have k0 : 0 < p0.size := by
          by_cases h : p0.size = 0
          · exact absurd (.inl h) hx
          · omega
        have k3 : 0 < p3.size := by
          by_cases h : p3.size = 0
          · exact absurd (.inr (.inr (.inl h))) hx
          · omega
        have k4 : p3[0].toNat = 61 := by
          by_cases h : p3[0].toNat = 61
          · exact h
          · exact absurd (.inr (.inr (.inr (.inl ⟨k3, h⟩)))) hx
        have k5 : ¬ 0 ≤ Lib.indexByte p0.data.toList 61 := fun h => hx (.inr (.inr (.inr (.inr h))))
        have l0 : p0.data.toList.length = p0.size := rfl
        have l2 : p2.data.toList.length = p2.size := rfl
        have l3 : p3.data.toList.length = p3.size := rfl
        have hpb : Parts R.data.toList p0.data.toList [c] p2.data.toList p3.data.toList := hparts
        have hlen := congrArg List.length hpb.eq
        simp only [List.length_append, List.length_cons, List.length_nil, l0, l2, l3, hRl] at hlen
        have hp3 : p3.data.toList = 61 :: p3.data.toList.drop 1 := by
          have h1 : p3.data.toList[0]? = some p3[0] := by rw [List.getElem?_eq_getElem (by omega)]; rfl
          have h2 : p3[0] = 61 := UInt8.toNat_inj.1 k4
          cases hq : p3.data.toList with
          | nil => rw [hq] at l3; simp at l3; omega
          | cons a t =>
            rw [hq] at h1
            simp at h1
            rw [h1, h2]; rfl
        have hpa : Parts R.data.toList p0.data.toList [c] p2.data.toList (61 :: p3.data.toList.drop 1) := by
          rw [← hp3]; exact hparts
        refine word_good s R p0 p2 p3 c w hw hs r hp ht hR (by omega) hsp h3 k0 k3 k4 (decide_eq_false k5) (7 + p0.size + p2.size) rfl (by omega) ?_ ?_
        · intro j hj hjN hv
          rw [hr']
          refine frontT_none ?_
          cases hf : frontS (61 :: 63 :: R.data.toList) with
          | none => rfl
          | some q =>
            obtain ⟨cs, how, tx⟩ := q
            obtain ⟨e0, e1, e2, ⟨z, e3⟩, hne, hcs, hh, htx⟩ := front_parts hparts hf
            obtain ⟨z2, hw2⟩ := front_word hf
            have hvv := word_vis hw2 s[j] (by
              rw [← e0, ← e2, l0, l2, ← hr']
              refine List.mem_iff_getElem.2 ⟨j, ?_, ?_⟩
              · rw [List.length_take]; omega
              · rw [List.getElem_take]; rfl)
            rw [hvv] at hv; cases hv
        · intro hall
          have hv : ∀ d ∈ (61 :: 63 :: R.data.toList : List UInt8).take (7 + p0.data.toList.length + p2.data.toList.length), vis d = true := by
            intro d hd
            rw [← hr', l0, l2] at hd
            obtain ⟨j, hj, rfl⟩ := List.mem_iff_getElem.1 hd
            rw [List.length_take] at hj
            rw [List.getElem_take]
            exact hall j (by omega) (by omega)
          rw [hr']
          by_cases hh : howOK c = true
          · rw [if_pos hh, frontT_some (front_ok hpa (fun e => by rw [e] at l0; simp at l0; omega) (fun hm => k5 (mem_ib _ hm)) hh hv), l0, l2]
          · rw [if_neg hh]
            refine frontT_none ?_
            cases hf : frontS (61 :: 63 :: R.data.toList) with
            | none => rfl
            | some q =>
              obtain ⟨cs, how, tx⟩ := q
              obtain ⟨e0, e1, e2, ⟨z, e3⟩, hne, hcs, hho, htx⟩ := front_parts hpa hf
              injection e1 with e1
              rw [← e1] at hho
              exact absurd hho hh
  · exact word_no s w hno
end Go.Proofs.YtnclbbgdfaeilaaGreatDoor
namespace Go.Proofs.YtnclbbgdfaeilaaGreatDoor
open Go.RowKit Pk U8 Cs Wd

/-- word at an offset -/
theorem word_at (s : ByteArray) (k : Nat) (w : World) (hw : Rdy w) (hs : s.size ≤ 3000000) (T : ByteArray) (n : Nat) (hT : T = ⟨(frontT (tl s k)).1.toArray⟩) (hn : n = (frontT (tl s k)).2) :
    Calls Tryz.prog 34 #[.string (s.extract k s.size)] w fun e w' => e = .returned (.tuple #[.string T, .int .i64 n]) ∧ Below w.heap.size w w' := by
  have h := word_any (s.extract k s.size) w hw (by rw [ByteArray.size_extract]; omega)
  unfold WordIs at h
  have e : (s.extract k s.size).data.toList = tl s k := by
    have := extC_tl s k
    rwa [tl_zero] at this
  rw [e, ← hT, ← hn] at h
  exact h
/-- where decoding goes on behind a word -/
def nextAt (s : ByteArray) (k : Nat) : Nat := s.size - (skipG (tl s k)).length
theorem skipG_tl (s : ByteArray) (k : Nat) (h : k ≤ s.size) : skipG (tl s k) = tl s (nextAt s k) ∧ k ≤ nextAt s k ∧ nextAt s k ≤ s.size := by
  have hle := skipG_le (tl s k)
  rw [tl_length] at hle
  have key : ∀ j, k ≤ j → j ≤ s.size → skipG (tl s k) = tl s j → j = nextAt s k := fun j h1 h2 h3 => by
    unfold nextAt
    rw [h3, tl_length]; omega
  have hd : ∀ (l : List UInt8) (p : UInt8 → Bool), ∃ j, j ≤ l.length ∧ l.dropWhile p = l.drop j := by
    intro l p
    induction l with
    | nil => exact ⟨0, by simp, rfl⟩
    | cons c l ih =>
      obtain ⟨j, h1, h2⟩ := ih
      cases hc : p c with
      | true => exact ⟨j + 1, by rw [List.length_cons]; omega, by rw [List.dropWhile_cons_of_pos hc, h2]; rfl⟩
      | false => exact ⟨0, by simp, by rw [List.dropWhile_cons_of_neg (by simp [hc])]; rfl⟩
  have hj : ∃ j, k ≤ j ∧ j ≤ s.size ∧ skipG (tl s k) = tl s j := by
    unfold skipG
    split
    · obtain ⟨j, h1, h2⟩ := hd (tl s k) Su.blk
      rw [tl_length] at h1
      exact ⟨k + j, by omega, by omega, by rw [h2, tl_drop]⟩
    · exact ⟨k, by omega, h, rfl⟩
  obtain ⟨j, h1, h2, h3⟩ := hj
  have := key j h1 h2 h3
  subst this
  exact ⟨h3, h1, h2⟩
/-- the blanks behind a word, seen so far -/
def BlkTo (s : ByteArray) (k q : Nat) : Prop := skipG (tl s k) = if 0 < (frontT ((tl s q).dropWhile Su.blk)).2 then (tl s q).dropWhile Su.blk else tl s k
theorem blkTo_start (s : ByteArray) (k : Nat) : Hid (BlkTo s k k) := by
  show BlkTo _ _ _
  unfold BlkTo skipG
  split <;> rfl
theorem blkTo_step {s : ByteArray} {k q : Nat} (h : Hid (BlkTo s k q)) (hq : q < s.size) (hb : Su.blk s[q] = true) : Hid (BlkTo s k (q + 1)) := by
  show BlkTo _ _ _
  have h := h.out
  unfold BlkTo at *
  rw [tl_cons s q hq, List.dropWhile_cons_of_pos hb] at h
  exact h
theorem blkTo_stop {s : ByteArray} {k q : Nat} (h : Hid (BlkTo s k q)) (hq : q < s.size) (hb : Su.blk s[q] = false) : skipG (tl s k) = if 0 < (frontT (tl s q)).2 then tl s q else tl s k := by
  have h := h.out
  unfold BlkTo at h
  rw [tl_cons s q hq, List.dropWhile_cons_of_neg (by simp [hb]), ← tl_cons s q hq] at h
  exact h
theorem blkTo_end {s : ByteArray} {k q : Nat} (h : Hid (BlkTo s k q)) (hq : ¬ q < s.size) : skipG (tl s k) = tl s k := by
  have h := h.out
  unfold BlkTo at h
  rw [tl_end s q (by omega)] at h
  exact h
theorem raw_step0 {s : ByteArray} {k : Nat} {acc X : List UInt8} (h : Hid (acc ++ rawL (tl s k) = X)) (hk : k < s.size) (hn : (frontT (tl s k)).2 = 0) : Hid (acc ++ [s[k]] ++ rawL (tl s (k + 1)) = X) := by
  have e := h.out
  rw [raw_cons (tl_ne hk)] at e
  unfold stepD at e
  rw [if_pos hn, tl_cons s k hk] at e
  show _ = _
  rw [← e]
  simp
theorem raw_step1 {s : ByteArray} {k n : Nat} {acc X : List UInt8} (h : Hid (acc ++ rawL (tl s k) = X)) (hk : k < s.size) (hn : n = (frontT (tl s k)).2) (hn0 : n ≠ 0) : Hid (acc ++ (frontT (tl s k)).1 ++ rawL (skipG (tl s (k + n))) = X) := by
  have e := h.out
  rw [raw_cons (tl_ne hk)] at e
  unfold stepD at e
  rw [if_neg (by omega), ← hn, tl_drop] at e
  show _ = _
  rw [← e]
  simp
theorem raw_end {s : ByteArray} {k : Nat} {acc X : List UInt8} (h : Hid (acc ++ rawL (tl s k) = X)) (hk : ¬ k < s.size) : acc = X := by
  have e := h.out
  rw [tl_end s k (by omega), raw_nil, List.append_nil] at e
  exact e
set_option maxHeartbeats 4000000 in
set_option maxRecDepth 100000 in
theorem decodeW_any (s : ByteArray) (w : World) (hw : Rdy w) (hs : s.size ≤ 700000) : Calls Tryz.prog 11 #[.string s] w fun e w' => e = .returned (.string ⟨(decW s.data.toList).toArray⟩) ∧ Below w.heap.size w w' := by
  have HW := Lib.hid hw
  have htl := Lib.hid (raw_length _ s.data.toList (Nat.le_refl _))
  clear hw
  go_enter Tryz.func11, Tryz.ntmps11
  go_wp2
  go_step3
  go_wp2
  go_step3
  go_wp2
  go_loopg [4] s.size (fun g iv wr => ∃ (k : Nat) (acc : List UInt8), k + g = s.size ∧ iv = .int .i64 k ∧ Bld wr w.heap.size w.heap.size acc ∧ Below w.heap.size w wr ∧ acc.length ≤ 4 * k ∧ Hid (acc ++ rawL (tl s k) = rawL (tl s 0)))
  case atStart => exact ⟨0, [], by omega, by first | rfl | trivial, Bld.new w, (Below.refl _ _).alloc (Nat.le_refl _) _, by simp, rfl⟩
  case round =>
    obtain ⟨k, acc, hkg, rfl, hB, hbel, hal, hrel⟩ := hrel
    have hk : k ≤ s.size := by omega
    have hsz := hbel.size
    by_cases hlt : k < s.size
    · have hle := frontT_le (tl s k)
      rw [tl_length] at hle
      have hlen := frontT_len (tl s k)
      have hst0 := raw_step0 hrel hlt
      have hst1 := fun n => raw_step1 (n := n) hrel hlt
      obtain ⟨T, hT, hTl, hTs⟩ := arr_ex (frontT (tl s k)).1
      obtain ⟨n, hn⟩ : ∃ n, n = (frontT (tl s k)).2 := ⟨_, rfl⟩
      have hwd := fun w' (hb : Below w.heap.size w w') => word_at s k w' (HW.out.later hb) (by omega) T n hT hn
      rw [← hn] at hle hlen hst0
      rw [← hTl] at hst1 hlen
      have hTn : T.size ≤ 4 * n := by have : T.data.toList.length = T.size := rfl; omega
      have HWD := Lib.hid hwd
      clear hwd hT hTl hTs hrel hlen
      by_cases h0 : n = 0
      · subst h0
        have hd := hst0 rfl
        clear hst0 hst1 hn
        go_wp2_with (first
          | (go_at_call 34; (with_reducible refine (HWD.out _ hbel).mono ?_); rintro e w1 ⟨rfl, hb1⟩; have hB1 := hB.below hb1 (Nat.le_refl _); have hbel1 := hbel.trans (hb1.mono hsz); have hsz1 := hbel1.size)
          | (go_at_call 35; (with_reducible refine (wbc _ _ _ _ _ hB1 (by omega) (by omega)).mono ?_); rintro e w2 ⟨rfl, hB2, hb2, -⟩))
        go_roundg (s.size - (k + 1))
        case rel => exact ⟨k + 1, _, by omega, by go_num, hB2, hbel1.trans hb2, by rw [List.length_append, List.length_singleton]; omega, hd⟩
        case measure => omega
      · have hd := hst1 n hn h0
        have q0 : ((n : Int) == 0) = false := beq_eq_false_iff_ne.2 (by omega)
        clear hst0 hst1 hn
        go_wp2_with (first
          | (go_at_call 34; (with_reducible refine (HWD.out _ hbel).mono ?_); rintro e w1 ⟨rfl, hb1⟩; have hB1 := hB.below hb1 (Nat.le_refl _); have hbel1 := hbel.trans (hb1.mono hsz); have hsz1 := hbel1.size)
          | (go_at_call 31; (with_reducible refine (ws _ _ _ _ _ hB1 (by omega) (by omega)).mono ?_); rintro e w2 ⟨rfl, hB2, hb2, -⟩; have hbel2 := hbel1.trans hb2; have hsz2 := hbel2.size))
        clear hB hbel hB1 hbel1 hb1 hb2 HWD hsz hsz1
        have hal2 : (acc ++ T.data.toList).length ≤ 4 * (k + n) := by
          have : T.data.toList.length = T.size := rfl
          rw [List.length_append]; omega
        generalize acc ++ T.data.toList = acc2 at hB2 hd hal2
        have hkn : k + n ≤ s.size := by omega
        have hn1 : 1 ≤ n := by omega
        go_loopg [4, 7] (s.size - (k + n)) (fun g2 av qv wy => ∃ (q : Nat), q + g2 = s.size ∧ k + n ≤ q ∧ av = .int .i64 ((k + n : Nat) : Int) ∧ qv = .int .i64 q ∧ wy = w2 ∧ Hid (BlkTo s (k + n) q))
        case atStart => exact ⟨k + n, by omega, by omega, by go_num, by go_num, rfl, blkTo_start _ _⟩
        case round =>
          obtain ⟨q, hqg, hkq, rfl, rfl, rfl, hbl⟩ := hrel
          by_cases hq : q < s.size
          · have hbk := wblank_any s[q]
            have hst := fun h => blkTo_step hbl hq h
            have hsp := fun h => blkTo_stop hbl hq h
            generalize hcq : s[q] = cq at hbk hst hsp
            have HBK := Lib.hid hbk
            clear hbk
            cases hb : Su.blk cq with
            | true =>
              have hd2 := hst hb
              rw [hb] at HBK
              clear hst hsp hbl
              go_wp2_with (go_at_call 36; (with_reducible refine (HBK.out _).mono ?_); rintro e w5 ⟨rfl, rfl⟩)
              go_roundg (s.size - (q + 1))
              case rel => exact ⟨q + 1, by omega, by omega, by go_num, by go_num, by first | rfl | trivial, hd2⟩
              case measure => omega
            | false =>
              have hd2 := hsp hb
              rw [hb] at HBK
              obtain ⟨T2, hT2, -, -⟩ := arr_ex (frontT (tl s q)).1
              obtain ⟨n2, hn2⟩ : ∃ n, n = (frontT (tl s q)).2 := ⟨_, rfl⟩
              have hwd2 := word_at s q _ (HW.out.later hbel2) (by omega) T2 n2 hT2 hn2
              rw [← hn2] at hd2
              have HWD2 := Lib.hid hwd2
              clear hwd2 hT2 hn2 hst hsp hbl
              by_cases h2 : 0 < n2
              · have q2 : decide ((0 : Int) < (n2 : Int)) = true := decide_eq_true (by omega)
                rw [if_pos h2] at hd2
                have hd3 := hd.out
                rw [hd2] at hd3
                have HD3 := Lib.hid hd3
                clear hd hd2 hd3
                go_wp2_with (first
                  | (go_at_call 36; (with_reducible refine (HBK.out _).mono ?_); rintro e w5 ⟨rfl, rfl⟩)
                  | (go_at_call 34; (with_reducible refine (HWD2.out).mono ?_); rintro e w6 ⟨rfl, hb6⟩; have hB6 := hB2.below hb6 (Nat.le_refl _); have hbel6 := hbel2.trans (hb6.mono hsz2)))
                go_roundg (s.size - q)
                case rel => exact ⟨q, acc2, by omega, by go_num, hB6, hbel6, by omega, HD3⟩
                case measure => omega
              · have q2 : decide ((0 : Int) < (n2 : Int)) = false := decide_eq_false (by omega)
                rw [if_neg h2] at hd2
                have hd3 := hd.out
                rw [hd2] at hd3
                have HD3 := Lib.hid hd3
                clear hd hd2 hd3
                go_wp2_with (first
                  | (go_at_call 36; (with_reducible refine (HBK.out _).mono ?_); rintro e w5 ⟨rfl, rfl⟩)
                  | (go_at_call 34; (with_reducible refine (HWD2.out).mono ?_); rintro e w6 ⟨rfl, hb6⟩; have hB6 := hB2.below hb6 (Nat.le_refl _); have hbel6 := hbel2.trans (hb6.mono hsz2)))
                go_roundg (s.size - (k + n))
                case rel => exact ⟨k + n, acc2, by omega, by go_num, hB6, hbel6, by omega, HD3⟩
                case measure => omega
          · have hd2 := blkTo_end hbl hq
            have hd3 := hd.out
            rw [hd2] at hd3
            have HD3 := Lib.hid hd3
            clear hd hd2 hd3
            go_wp2
            go_roundg (s.size - (k + n))
            case rel => exact ⟨k + n, acc2, by omega, by go_num, hB2, hbel2, by omega, HD3⟩
            case measure => omega
    · have he := raw_end hrel hlt
      rw [tl_zero] at he
      obtain ⟨P, hP, hPl, hPs⟩ := arr_ex (rawL s.data.toList)
      have hRP := fun w' (hb : Below w.heap.size w w') => repairP_any P w' (HW.out.tabs.later hb) (by have := htl.out; have : s.data.toList.length = s.size := rfl; omega)
      have hS := bstr w.heap.size w.heap.size acc wr hB hsz
      rw [he, ← hP] at hS
      rw [hPl] at hRP
      have HRP := Lib.hid hRP
      have HS := Lib.hid hS
      have hfin : Hid (repairL (rawL s.data.toList) = decW s.data.toList) := rfl
      clear hRP hS hrel he hP hPl hPs
      go_wp2_with (first
        | (go_at_call 32; (with_reducible refine HS.out.mono ?_); rintro e w1 ⟨rfl, -, hb1, -⟩; have hbel1 := hbel.trans hb1)
        | (go_at_call 12; (with_reducible refine (HRP.out _ hbel1).mono ?_); rintro e w2 ⟨rfl, hb2⟩; have hbel2 := hbel1.trans (hb2.mono hbel1.size)))
      try rw [Exit.noGoto_ret]
      go_ret
      rw [← hfin.out]
      exact ⟨rfl, hbel2⟩
end Go.Proofs.YtnclbbgdfaeilaaGreatDoor
