/- Walks: addr: is, the closures, plain. Walks: addr: row, name. Walks: addr: slices.IndexFunc at tokens, four closures. Walks: addr: name. -/
import Derived.Test.YtilccofdphohiaaGreatDoorAdPl
import Derived.Test.YtilccofdphohiaaGreatDoorRows
import Derived.Shelf.SlicesQ.IndexFunc
import Derived.Test.YtilccofdphohiaaGreatDoorTk6
namespace Go.Proofs.YtilccofdphohiaaGreatDoor
open Go.RowKit Pk Ad Fo

theorem isT_eq (b : UInt8) (k : Nat) (T : ByteArray) : isT b ⟨k, T⟩ = (((k : Int) == 4) && (T.toList == [b])) := by
  unfold isT
  have e1 : ((k : Int) == 4) = (k == 4) := by
    by_cases h : k = 4
    · rw [h]; rfl
    · rw [beq_eq_false_iff_ne.2 h, beq_eq_false_iff_ne.2 (by omega)]
  rw [e1, ByteArray.toList_eq]
theorem is62 (k : Nat) (T : ByteArray) (w : World) : Calls Tryz.prog 46 #[.agg #[.int .i64 k, .string T], .string ⟨#[62]⟩] w fun e w' => e = .returned (.bool (isT 62 ⟨k, T⟩)) ∧ Below w.heap.size w w' := by
  rw [isT_eq]
  have tb := (Below.refl w.heap.size w).alloc (Nat.le_refl _) (.cells #[.int .i64 k, .string T] 43)
  cases hk : ((k : Int) == 4) with
  | false =>
    go_enter Tryz.func46, Tryz.ntmps46
    go_wp2
    go_ret
    exact ⟨rfl, tb⟩
  | true =>
    cases hT : (T.toList == [62]) with
    | false =>
      go_enter Tryz.func46, Tryz.ntmps46
      go_wp2
      go_ret
      exact ⟨by first | rfl | (simp; done) | (simp [*]; done), tb⟩
    | true =>
      go_enter Tryz.func46, Tryz.ntmps46
      go_wp2
      go_ret
      exact ⟨by first | rfl | (simp; done) | (simp [*]; done), tb⟩
theorem is60 (k : Nat) (T : ByteArray) (w : World) : Calls Tryz.prog 46 #[.agg #[.int .i64 k, .string T], .string ⟨#[60]⟩] w fun e w' => e = .returned (.bool (isT 60 ⟨k, T⟩)) ∧ Below w.heap.size w w' := by
  rw [isT_eq]
  have tb := (Below.refl w.heap.size w).alloc (Nat.le_refl _) (.cells #[.int .i64 k, .string T] 43)
  cases hk : ((k : Int) == 4) with
  | false =>
    go_enter Tryz.func46, Tryz.ntmps46
    go_wp2
    go_ret
    exact ⟨rfl, tb⟩
  | true =>
    cases hT : (T.toList == [60]) with
    | false =>
      go_enter Tryz.func46, Tryz.ntmps46
      go_wp2
      go_ret
      exact ⟨by first | rfl | (simp; done) | (simp [*]; done), tb⟩
    | true =>
      go_enter Tryz.func46, Tryz.ntmps46
      go_wp2
      go_ret
      exact ⟨by first | rfl | (simp; done) | (simp [*]; done), tb⟩
theorem is58 (k : Nat) (T : ByteArray) (w : World) : Calls Tryz.prog 46 #[.agg #[.int .i64 k, .string T], .string ⟨#[58]⟩] w fun e w' => e = .returned (.bool (isT 58 ⟨k, T⟩)) ∧ Below w.heap.size w w' := by
  rw [isT_eq]
  have tb := (Below.refl w.heap.size w).alloc (Nat.le_refl _) (.cells #[.int .i64 k, .string T] 43)
  cases hk : ((k : Int) == 4) with
  | false =>
    go_enter Tryz.func46, Tryz.ntmps46
    go_wp2
    go_ret
    exact ⟨rfl, tb⟩
  | true =>
    cases hT : (T.toList == [58]) with
    | false =>
      go_enter Tryz.func46, Tryz.ntmps46
      go_wp2
      go_ret
      exact ⟨by first | rfl | (simp; done) | (simp [*]; done), tb⟩
    | true =>
      go_enter Tryz.func46, Tryz.ntmps46
      go_wp2
      go_ret
      exact ⟨by first | rfl | (simp; done) | (simp [*]; done), tb⟩
theorem is44 (k : Nat) (T : ByteArray) (w : World) : Calls Tryz.prog 46 #[.agg #[.int .i64 k, .string T], .string ⟨#[44]⟩] w fun e w' => e = .returned (.bool (isT 44 ⟨k, T⟩)) ∧ Below w.heap.size w w' := by
  rw [isT_eq]
  have tb := (Below.refl w.heap.size w).alloc (Nat.le_refl _) (.cells #[.int .i64 k, .string T] 43)
  cases hk : ((k : Int) == 4) with
  | false =>
    go_enter Tryz.func46, Tryz.ntmps46
    go_wp2
    go_ret
    exact ⟨rfl, tb⟩
  | true =>
    cases hT : (T.toList == [44]) with
    | false =>
      go_enter Tryz.func46, Tryz.ntmps46
      go_wp2
      go_ret
      exact ⟨by first | rfl | (simp; done) | (simp [*]; done), tb⟩
    | true =>
      go_enter Tryz.func46, Tryz.ntmps46
      go_wp2
      go_ret
      exact ⟨by first | rfl | (simp; done) | (simp [*]; done), tb⟩
theorem is59 (k : Nat) (T : ByteArray) (w : World) : Calls Tryz.prog 46 #[.agg #[.int .i64 k, .string T], .string ⟨#[59]⟩] w fun e w' => e = .returned (.bool (isT 59 ⟨k, T⟩)) ∧ Below w.heap.size w w' := by
  rw [isT_eq]
  have tb := (Below.refl w.heap.size w).alloc (Nat.le_refl _) (.cells #[.int .i64 k, .string T] 43)
  cases hk : ((k : Int) == 4) with
  | false =>
    go_enter Tryz.func46, Tryz.ntmps46
    go_wp2
    go_ret
    exact ⟨rfl, tb⟩
  | true =>
    cases hT : (T.toList == [59]) with
    | false =>
      go_enter Tryz.func46, Tryz.ntmps46
      go_wp2
      go_ret
      exact ⟨by first | rfl | (simp; done) | (simp [*]; done), tb⟩
    | true =>
      go_enter Tryz.func46, Tryz.ntmps46
      go_wp2
      go_ret
      exact ⟨by first | rfl | (simp; done) | (simp [*]; done), tb⟩
theorem is46 (k : Nat) (T : ByteArray) (w : World) : Calls Tryz.prog 46 #[.agg #[.int .i64 k, .string T], .string ⟨#[46]⟩] w fun e w' => e = .returned (.bool (isT 46 ⟨k, T⟩)) ∧ Below w.heap.size w w' := by
  rw [isT_eq]
  have tb := (Below.refl w.heap.size w).alloc (Nat.le_refl _) (.cells #[.int .i64 k, .string T] 43)
  cases hk : ((k : Int) == 4) with
  | false =>
    go_enter Tryz.func46, Tryz.ntmps46
    go_wp2
    go_ret
    exact ⟨rfl, tb⟩
  | true =>
    cases hT : (T.toList == [46]) with
    | false =>
      go_enter Tryz.func46, Tryz.ntmps46
      go_wp2
      go_ret
      exact ⟨by first | rfl | (simp; done) | (simp [*]; done), tb⟩
    | true =>
      go_enter Tryz.func46, Tryz.ntmps46
      go_wp2
      go_ret
      exact ⟨by first | rfl | (simp; done) | (simp [*]; done), tb⟩
theorem is64 (k : Nat) (T : ByteArray) (w : World) : Calls Tryz.prog 46 #[.agg #[.int .i64 k, .string T], .string ⟨#[64]⟩] w fun e w' => e = .returned (.bool (isT 64 ⟨k, T⟩)) ∧ Below w.heap.size w w' := by
  rw [isT_eq]
  have tb := (Below.refl w.heap.size w).alloc (Nat.le_refl _) (.cells #[.int .i64 k, .string T] 43)
  cases hk : ((k : Int) == 4) with
  | false =>
    go_enter Tryz.func46, Tryz.ntmps46
    go_wp2
    go_ret
    exact ⟨rfl, tb⟩
  | true =>
    cases hT : (T.toList == [64]) with
    | false =>
      go_enter Tryz.func46, Tryz.ntmps46
      go_wp2
      go_ret
      exact ⟨by first | rfl | (simp; done) | (simp [*]; done), tb⟩
    | true =>
      go_enter Tryz.func46, Tryz.ntmps46
      go_wp2
      go_ret
      exact ⟨by first | rfl | (simp; done) | (simp [*]; done), tb⟩
def elA (x : El) : Value := .agg #[.int .i64 x.kind, .string x.text]
theorem at_pred (w : World) : PredBelow Tryz.prog 78 #[] (fun x : El => Value.agg (elC x).toArray) (isT 64) w := by
  intro W x hb
  have hI := is64 x.kind x.text (W.alloc (.cells #[.int .i64 x.kind, .string x.text] 43))
  have HI := Lib.hid hI
  have tb := (Below.refl W.heap.size W).alloc (Nat.le_refl _) (.cells #[.int .i64 x.kind, .string x.text] 43)
  have HB := Lib.hid hb
  have hx : x = ⟨x.kind, x.text⟩ := rfl
  show Calls Tryz.prog _ #[.agg #[.int .i64 x.kind, .string x.text]] W _
  rw [hx]
  generalize x.kind = k at *
  generalize x.text = T at *
  clear hI hb hx
  go_enter Tryz.func78, Tryz.ntmps78
  go_wp2_with (go_at_call 46; (with_reducible refine HI.out.mono ?_); rintro e w1 ⟨rfl, hb1⟩; have tb := tb.trans (hb1.mono tb.size))
  go_ret
  exact ⟨rfl, HB.out.trans (tb.mono HB.out.size)⟩
theorem lt_pred (w : World) : PredBelow Tryz.prog 48 #[] (fun x : El => Value.agg (elC x).toArray) (isT 60) w := by
  intro W x hb
  have hI := is60 x.kind x.text (W.alloc (.cells #[.int .i64 x.kind, .string x.text] 43))
  have HI := Lib.hid hI
  have tb := (Below.refl W.heap.size W).alloc (Nat.le_refl _) (.cells #[.int .i64 x.kind, .string x.text] 43)
  have HB := Lib.hid hb
  have hx : x = ⟨x.kind, x.text⟩ := rfl
  show Calls Tryz.prog _ #[.agg #[.int .i64 x.kind, .string x.text]] W _
  rw [hx]
  generalize x.kind = k at *
  generalize x.text = T at *
  clear hI hb hx
  go_enter Tryz.func48, Tryz.ntmps48
  go_wp2_with (go_at_call 46; (with_reducible refine HI.out.mono ?_); rintro e w1 ⟨rfl, hb1⟩; have tb := tb.trans (hb1.mono tb.size))
  go_ret
  exact ⟨rfl, HB.out.trans (tb.mono HB.out.size)⟩
theorem gt_pred (w : World) : PredBelow Tryz.prog 51 #[] (fun x : El => Value.agg (elC x).toArray) (isT 62) w := by
  intro W x hb
  have hI := is62 x.kind x.text (W.alloc (.cells #[.int .i64 x.kind, .string x.text] 43))
  have HI := Lib.hid hI
  have tb := (Below.refl W.heap.size W).alloc (Nat.le_refl _) (.cells #[.int .i64 x.kind, .string x.text] 43)
  have HB := Lib.hid hb
  have hx : x = ⟨x.kind, x.text⟩ := rfl
  show Calls Tryz.prog _ #[.agg #[.int .i64 x.kind, .string x.text]] W _
  rw [hx]
  generalize x.kind = k at *
  generalize x.text = T at *
  clear hI hb hx
  go_enter Tryz.func51, Tryz.ntmps51
  go_wp2_with (go_at_call 46; (with_reducible refine HI.out.mono ?_); rintro e w1 ⟨rfl, hb1⟩; have tb := tb.trans (hb1.mono tb.size))
  go_ret
  exact ⟨rfl, HB.out.trans (tb.mono HB.out.size)⟩
theorem cn_pred (w : World) : PredBelow Tryz.prog 52 #[] (fun x : El => Value.agg (elC x).toArray) (isT 58) w := by
  intro W x hb
  have hI := is58 x.kind x.text (W.alloc (.cells #[.int .i64 x.kind, .string x.text] 43))
  have HI := Lib.hid hI
  have tb := (Below.refl W.heap.size W).alloc (Nat.le_refl _) (.cells #[.int .i64 x.kind, .string x.text] 43)
  have HB := Lib.hid hb
  have hx : x = ⟨x.kind, x.text⟩ := rfl
  show Calls Tryz.prog _ #[.agg #[.int .i64 x.kind, .string x.text]] W _
  rw [hx]
  generalize x.kind = k at *
  generalize x.text = T at *
  clear hI hb hx
  go_enter Tryz.func52, Tryz.ntmps52
  go_wp2_with (go_at_call 46; (with_reducible refine HI.out.mono ?_); rintro e w1 ⟨rfl, hb1⟩; have tb := tb.trans (hb1.mono tb.size))
  go_ret
  exact ⟨rfl, HB.out.trans (tb.mono HB.out.size)⟩
end Go.Proofs.YtilccofdphohiaaGreatDoor
namespace Go.Proofs.YtilccofdphohiaaGreatDoor
open Go.RowKit Pk Ad Tk Fo

def PairS (x : List UInt8 × Bool) (w : World) (e : Ending) (w' : World) : Prop := e = .returned (.tuple #[.string ⟨x.1.toArray⟩, .bool x.2]) ∧ Below w.heap.size w w'
theorem valI_E (t : El) : valI (t.kind : Int) t.text.data.toList = valE t := valI_nat _ _
theorem ue_len (l : List UInt8) (b : Bool) : (ue b l).length ≤ l.length := ue_length l b
theorem valE_le (t : El) : (valE t).length ≤ t.text.size := by
  have hd : t.text.data.toList.length = t.text.size := rfl
  unfold valE valL
  split
  · have h1 := ue_length ((t.text.data.toList.drop 1).take (t.text.data.toList.length - 2)) false
    have h2 : ((t.text.data.toList.drop 1).take (t.text.data.toList.length - 2)).length ≤ t.text.data.toList.length := by rw [List.length_take, List.length_drop]; omega
    omega
  · omega
/-- what a loop over words has done -/
def RwAt (one other : Nat) (m : List El) (i : Nat) (acc : List UInt8) : Prop := acc ++ vals (m.drop i) = vals m ∧ rowOk one other (i % 2 == 0) (m.drop i) = rowOk one other true m
theorem rw_start (one other : Nat) (m : List El) : RwAt one other m 0 [] := ⟨rfl, rfl⟩
theorem par_succ (i : Nat) : ((i + 1) % 2 == 0) = !(i % 2 == 0) := by
  rcases Nat.mod_two_eq_zero_or_one i with h | h
  · have : (i + 1) % 2 = 1 := by omega
    rw [h, this]; rfl
  · have : (i + 1) % 2 = 0 := by omega
    rw [h, this]; rfl
theorem rw_step {one other : Nat} {m : List El} {i : Nat} {acc : List UInt8} (h : RwAt one other m i acc) (hi : i < m.length) :
    (i % 2 = 1 → (isT 46 m[i] = true → RwAt one other m (i + 1) (acc ++ valE m[i])) ∧ (isT 46 m[i] = false → rowP one other m = ([], false))) ∧
    (i % 2 = 0 → ((m[i].kind = one ∨ m[i].kind = other) → RwAt one other m (i + 1) (acc ++ valE m[i])) ∧ (¬ (m[i].kind = one ∨ m[i].kind = other) → rowP one other m = ([], false))) := by
  obtain ⟨h1, h2⟩ := h
  rw [List.drop_eq_getElem_cons hi] at h1 h2
  have e1 : acc ++ valE m[i] ++ vals (m.drop (i + 1)) = vals m := by rw [← h1]; unfold vals; rw [List.flatMap_cons, List.append_assoc]
  refine ⟨fun hp => ⟨fun ht => ?_, fun ht => ?_⟩, fun hp => ⟨fun ht => ?_, fun ht => ?_⟩⟩
  · refine ⟨e1, ?_⟩
    rw [← h2, par_succ]
    have : (i % 2 == 0) = false := by rw [hp]; rfl
    rw [this, rowOk, ht, Bool.true_and]; rfl
  · unfold rowP
    rw [if_neg]
    rw [← h2]
    have : (i % 2 == 0) = false := by rw [hp]; rfl
    rw [this, rowOk, ht]; simp
  · refine ⟨e1, ?_⟩
    rw [← h2, par_succ]
    have : (i % 2 == 0) = true := by rw [hp]; rfl
    rw [this, rowOk]
    have hk : (m[i].kind == one || m[i].kind == other) = true := by
      rcases ht with ht | ht <;> rw [ht] <;> simp
    rw [hk, Bool.true_and]; rfl
  · unfold rowP
    rw [if_neg]
    rw [← h2]
    have : (i % 2 == 0) = true := by rw [hp]; rfl
    rw [this, rowOk]
    have hk : (m[i].kind == one || m[i].kind == other) = false := by
      rw [Bool.or_eq_false_iff, beq_eq_false_iff_ne, beq_eq_false_iff_ne]
      exact ⟨fun e => ht (.inl e), fun e => ht (.inr e)⟩
    rw [hk]; simp
theorem rw_end {one other : Nat} {m : List El} {i : Nat} {acc : List UInt8} (h : RwAt one other m i acc) (hi : ¬ i < m.length) : acc = vals m ∧ rowP one other m = (vals m, m.length % 2 == 1) := by
  obtain ⟨h1, h2⟩ := h
  rw [List.drop_eq_nil_of_le (by omega)] at h1 h2
  refine ⟨by rw [← h1]; simp [vals], ?_⟩
  unfold rowP
  rw [← h2]
  cases (i % 2 == 0) <;> rfl
theorem rw_len {one other : Nat} {m : List El} {i : Nat} {acc : List UInt8} (h : RwAt one other m i acc) (hi : i < m.length) : acc.length + (valE m[i]).length ≤ (vals m).length := by
  obtain ⟨h1, -⟩ := h
  rw [List.drop_eq_getElem_cons hi] at h1
  rw [← h1]
  unfold vals
  rw [List.flatMap_cons, List.length_append, List.length_append]; omega
theorem par_nat {n : Nat} (h : n % 2 = 1) : ((n : Int) % 2 == 1) = true := beq_iff_eq.2 (by omega)
set_option maxHeartbeats 4000000 in
set_option maxRecDepth 100000 in
theorem row12_any (p : Option Addr) (n c : Nat) (m : List El) (w : World) (h : TSl w p n c m) (hn : n ≤ 10000000) (hv : (vals m).length ≤ 100000000) (hT : ∀ t ∈ m, t.text.size ≤ 100000000) : Calls Tryz.prog 79 #[.slice p n c, .int .i64 1, .int .i64 2] w (PairS (rowP 1 2 m) w) := by
  obtain ⟨hl, hc, hm⟩ := h
  have hz : Hid (RwAt 1 2 m 0 []) := rw_start _ _ _
  have hB0 := Bld.new w
  have hb0 : Below w.heap.size w (w.alloc (.cells #[.pointer none, .slice none 0 0] 92)) := (Below.refl _ _).alloc (Nat.le_refl _) _
  have HL := Lib.hid hl
  have HM := Lib.hid hm
  have HT := Lib.hid hT
  have HV0 := Lib.hid hv
  have hp2 : ((n : Int).tmod 2) = (n : Int) % 2 := Int.tmod_eq_emod_of_nonneg (by omega)
  clear hl hm hT hv
  go_enter Tryz.func79, Tryz.ntmps79
  go_wp2
  go_loopw [13] (fun iv wr => ∃ (i : Nat) (acc : List UInt8), iv = .int .i64 i ∧ Bld wr w.heap.size w.heap.size acc ∧ Below w.heap.size w wr ∧ i ≤ n ∧ Hid (RwAt 1 2 m i acc)) (fun iv _ => n - (intOf iv).toNat)
  case atStart => exact ⟨0, [], by first | rfl | trivial, hB0, hb0, by omega, hz⟩
  case round =>
    clear hz hb0 hB0
    obtain ⟨i, acc, rfl, hB, hbel, hi, hrel⟩ := hrel
    have hsz := hbel.size
    by_cases hlt : i < n
    · have hlm : i < m.length := by rw [HL.out]; exact hlt
      obtain ⟨g, o, rfl, hcells⟩ : ∃ g o, p = some ⟨g, o, none⟩ ∧ tokAt w g o m := by
        rcases HM.out with h | h
        · rw [h] at hlm; simp at hlm
        · exact h
      obtain ⟨c0, c1⟩ := hcells i hlm
      have c0 := cell_later hbel c0
      have c1 := cell_later hbel c1
      obtain ⟨s1, s2⟩ := rw_step hrel.out hlm
      have hln := rw_len hrel.out hlm
      have hv := HV0.out
      have hTi := HT.out _ (List.getElem_mem hlm)
      have hBi := valE_le m[i]
      have hV := fun w => value_any (m[i].kind : Int) m[i].text w hTi
      rw [valI_E] at hV
      obtain ⟨V, hV1, hV2, hV3⟩ := arrE (valE m[i])
      unfold StrIs at hV
      rw [← hV1] at hV
      have hVb : acc.length + V.size ≤ 140737488355328 := by rw [hV3]; omega
      have HVl := Lib.hid hV2
      have hI := fun w => is46 m[i].kind m[i].text w
      have hT46 : isT 46 m[i] = isT 46 ⟨m[i].kind, m[i].text⟩ := rfl
      rw [hT46] at s1
      have hB2 := hB.alloc (.cells #[.int .i64 m[i].kind, .string m[i].text] 43)
      have tb : Below w.heap.size w (wr.alloc (.cells #[.int .i64 m[i].kind, .string m[i].text] 43)) := hbel.alloc hsz _
      have k0 : (wr.alloc (.cells #[.int .i64 m[i].kind, .string m[i].text] 43)).cell? ⟨wr.heap.size, 0, none⟩ = some (.int .i64 m[i].kind) := by simp
      have k1 : (wr.alloc (.cells #[.int .i64 m[i].kind, .string m[i].text] 43)).cell? ⟨wr.heap.size, 1, none⟩ = some (.string m[i].text) := by simp
      clear hrel hcells hTi hBi hln hV1 hV2 hV3 hT46 hv
      have s1' := Lib.hid s1
      have s2' := Lib.hid s2
      clear s1 s2
      generalize valE m[i] = VL at *
      generalize m[i].kind = k at *
      generalize m[i].text = T at *
      by_cases hp : i % 2 = 1
      · have q1 : ((i : Int) % 2 == 1) = true := beq_iff_eq.2 (by omega)
        have q2 : ((i : Int) % 2 == 0) = false := beq_eq_false_iff_ne.2 (by omega)
        obtain ⟨y1, y2⟩ := s1'.out hp
        generalize isT 46 ⟨k, T⟩ = tt at *
        have HV := Lib.hid hV
        cases tt with
        | true =>
          have HNX := Lib.hid (y1 rfl)
          have HI := Lib.hid hI
          clear hV hI y1 y2 hp s1' s2' hlm hB
          go_wp2_with (first
            | (go_at_call 46; (with_reducible refine (HI.out _).mono ?_); rintro e w1 ⟨rfl, hb1⟩; have tb := tb.trans (hb1.mono tb.size); have hB2 := hB2.below hb1 (Nat.le_refl _); have k0 := laterW hb1 k0; have k1 := laterW hb1 k1)
            | (go_at_call 82; (with_reducible refine (HV.out _).mono ?_); rintro e w3 ⟨rfl, hb3⟩; have tb := tb.trans (hb3.mono tb.size); have hB2 := hB2.below hb3 (Nat.le_refl _); have hS := ws w.heap.size w.heap.size acc V _ hB2 hVb tb.size)
            | (go_at_call 70; (with_reducible refine hS.mono ?_); rintro e w4 ⟨rfl, hB4, hb4, -⟩))
          go_roundw
          case rel => exact ⟨i + 1, _, by go_num, by rw [← HVl.out]; exact hB4, tb.trans hb4, by omega, HNX⟩
          case measure => simp [intOf]; omega
        | false =>
          have HX := Lib.hid (y2 rfl)
          have HI := Lib.hid hI
          clear hV hI y1 y2 hp s1' s2' hlm hB HV
          go_wp2_with (go_at_call 46; (with_reducible refine (HI.out _).mono ?_); rintro e w1 ⟨rfl, hb1⟩; have tb := tb.trans (hb1.mono tb.size))
          go_ret2
          rw [HX.out]
          exact ⟨rfl, tb⟩
      · have q1 : ((i : Int) % 2 == 1) = false := beq_eq_false_iff_ne.2 (by omega)
        have q2 : ((i : Int) % 2 == 0) = true := beq_iff_eq.2 (by omega)
        obtain ⟨y1, y2⟩ := s2'.out (by omega)
        have HV := Lib.hid hV
        have HI := Lib.hid hI
        by_cases ka : k = 1
        · have r1 : ((k : Int) != 1) = false := by rw [bne, beq_iff_eq.2 (by omega)]; rfl
          have HNX := Lib.hid (y1 (.inl ka))
          clear hV hI y1 y2 hp s1' s2' hlm hB ka
          go_wp2_with (first
            | (go_at_call 46; (with_reducible refine (HI.out _).mono ?_); rintro e w1 ⟨rfl, hb1⟩; have tb := tb.trans (hb1.mono tb.size); have hB2 := hB2.below hb1 (Nat.le_refl _); have k0 := laterW hb1 k0; have k1 := laterW hb1 k1)
            | (go_at_call 82; (with_reducible refine (HV.out _).mono ?_); rintro e w3 ⟨rfl, hb3⟩; have tb := tb.trans (hb3.mono tb.size); have hB2 := hB2.below hb3 (Nat.le_refl _); have hS := ws w.heap.size w.heap.size acc V _ hB2 hVb tb.size)
            | (go_at_call 70; (with_reducible refine hS.mono ?_); rintro e w4 ⟨rfl, hB4, hb4, -⟩))
          go_roundw
          case rel => exact ⟨i + 1, _, by go_num, by rw [← HVl.out]; exact hB4, tb.trans hb4, by omega, HNX⟩
          case measure => simp [intOf]; omega
        · have r1 : ((k : Int) != 1) = true := by rw [bne, beq_eq_false_iff_ne.2 (by omega)]; rfl
          by_cases kb : k = 2
          · skip
            have r2 : ((k : Int) != 2) = false := by rw [bne, beq_iff_eq.2 (by omega)]; rfl
            have HNX := Lib.hid (y1 (.inr kb))
            clear hV hI y1 y2 hp s1' s2' hlm hB ka kb
            go_wp2_with (first
              | (go_at_call 46; (with_reducible refine (HI.out _).mono ?_); rintro e w1 ⟨rfl, hb1⟩; have tb := tb.trans (hb1.mono tb.size); have hB2 := hB2.below hb1 (Nat.le_refl _); have k0 := laterW hb1 k0; have k1 := laterW hb1 k1)
              | (go_at_call 82; (with_reducible refine (HV.out _).mono ?_); rintro e w3 ⟨rfl, hb3⟩; have tb := tb.trans (hb3.mono tb.size); have hB2 := hB2.below hb3 (Nat.le_refl _); have hS := ws w.heap.size w.heap.size acc V _ hB2 hVb tb.size)
              | (go_at_call 70; (with_reducible refine hS.mono ?_); rintro e w4 ⟨rfl, hB4, hb4, -⟩))
            go_roundw
            case rel => exact ⟨i + 1, _, by go_num, by rw [← HVl.out]; exact hB4, tb.trans hb4, by omega, HNX⟩
            case measure => simp [intOf]; omega
          · have r2 : ((k : Int) != 2) = true := by rw [bne, beq_eq_false_iff_ne.2 (by omega)]; rfl
            have HX := Lib.hid (y2 (fun hh => by rcases hh with hh | hh; exact ka hh; exact kb hh))
            clear hV hI y1 y2 hp s1' s2' hlm hB ka kb HV
            go_wp2_with (go_at_call 46; (with_reducible refine (HI.out _).mono ?_); rintro e w1 ⟨rfl, hb1⟩; have tb := tb.trans (hb1.mono tb.size))
            go_ret2
            rw [HX.out]
            exact ⟨rfl, tb⟩
    · obtain ⟨hX, hX2⟩ := rw_end hrel.out (by rw [HL.out]; exact hlt)
      rw [HL.out] at hX2
      have hS := bstr w.heap.size w.heap.size acc wr hB hsz
      rw [hX] at hS
      have HS := Lib.hid hS
      have HX := Lib.hid hX2
      clear hS hrel hX hX2 hB HM HT HV0
      generalize vals m = VM at *
      rcases Nat.mod_two_eq_zero_or_one n with hp | hp
      · have q1 : ((n : Int) % 2 == 1) = false := beq_eq_false_iff_ne.2 (by omega)
        have q2 : (n % 2 == 1) = false := by rw [hp]; rfl
        have Q2 := Lib.hid q2
        clear q2 hp
        go_wp2_with (go_at_call 71; (with_reducible refine HS.out.mono ?_); rintro e w' ⟨rfl, -, hb3, -⟩)
        go_ret2
        rw [HX.out]
        exact ⟨by rw [Q2.out]; rfl, hbel.trans hb3⟩
      · have q1 : ((n : Int) % 2 == 1) = true := beq_iff_eq.2 (by omega)
        have q2 : (n % 2 == 1) = true := by rw [hp]; rfl
        have Q2 := Lib.hid q2
        clear q2 hp
        go_wp2_with (go_at_call 71; (with_reducible refine HS.out.mono ?_); rintro e w' ⟨rfl, -, hb3, -⟩)
        go_ret2
        rw [HX.out]
        exact ⟨by rw [Q2.out]; rfl, hbel.trans hb3⟩
set_option maxHeartbeats 4000000 in
set_option maxRecDepth 100000 in
theorem row11_any (p : Option Addr) (n c : Nat) (m : List El) (w : World) (h : TSl w p n c m) (hn : n ≤ 10000000) (hv : (vals m).length ≤ 100000000) (hT : ∀ t ∈ m, t.text.size ≤ 100000000) : Calls Tryz.prog 79 #[.slice p n c, .int .i64 1, .int .i64 1] w (PairS (rowP 1 1 m) w) := by
  obtain ⟨hl, hc, hm⟩ := h
  have hz : Hid (RwAt 1 1 m 0 []) := rw_start _ _ _
  have hB0 := Bld.new w
  have hb0 : Below w.heap.size w (w.alloc (.cells #[.pointer none, .slice none 0 0] 92)) := (Below.refl _ _).alloc (Nat.le_refl _) _
  have HL := Lib.hid hl
  have HM := Lib.hid hm
  have HT := Lib.hid hT
  have HV0 := Lib.hid hv
  have hp2 : ((n : Int).tmod 2) = (n : Int) % 2 := Int.tmod_eq_emod_of_nonneg (by omega)
  clear hl hm hT hv
  go_enter Tryz.func79, Tryz.ntmps79
  go_wp2
  go_loopw [13] (fun iv wr => ∃ (i : Nat) (acc : List UInt8), iv = .int .i64 i ∧ Bld wr w.heap.size w.heap.size acc ∧ Below w.heap.size w wr ∧ i ≤ n ∧ Hid (RwAt 1 1 m i acc)) (fun iv _ => n - (intOf iv).toNat)
  case atStart => exact ⟨0, [], by first | rfl | trivial, hB0, hb0, by omega, hz⟩
  case round =>
    clear hz hb0 hB0
    obtain ⟨i, acc, rfl, hB, hbel, hi, hrel⟩ := hrel
    have hsz := hbel.size
    by_cases hlt : i < n
    · have hlm : i < m.length := by rw [HL.out]; exact hlt
      obtain ⟨g, o, rfl, hcells⟩ : ∃ g o, p = some ⟨g, o, none⟩ ∧ tokAt w g o m := by
        rcases HM.out with h | h
        · rw [h] at hlm; simp at hlm
        · exact h
      obtain ⟨c0, c1⟩ := hcells i hlm
      have c0 := cell_later hbel c0
      have c1 := cell_later hbel c1
      obtain ⟨s1, s2⟩ := rw_step hrel.out hlm
      have hln := rw_len hrel.out hlm
      have hv := HV0.out
      have hTi := HT.out _ (List.getElem_mem hlm)
      have hBi := valE_le m[i]
      have hV := fun w => value_any (m[i].kind : Int) m[i].text w hTi
      rw [valI_E] at hV
      obtain ⟨V, hV1, hV2, hV3⟩ := arrE (valE m[i])
      unfold StrIs at hV
      rw [← hV1] at hV
      have hVb : acc.length + V.size ≤ 140737488355328 := by rw [hV3]; omega
      have HVl := Lib.hid hV2
      have hI := fun w => is46 m[i].kind m[i].text w
      have hT46 : isT 46 m[i] = isT 46 ⟨m[i].kind, m[i].text⟩ := rfl
      rw [hT46] at s1
      have hB2 := hB.alloc (.cells #[.int .i64 m[i].kind, .string m[i].text] 43)
      have tb : Below w.heap.size w (wr.alloc (.cells #[.int .i64 m[i].kind, .string m[i].text] 43)) := hbel.alloc hsz _
      have k0 : (wr.alloc (.cells #[.int .i64 m[i].kind, .string m[i].text] 43)).cell? ⟨wr.heap.size, 0, none⟩ = some (.int .i64 m[i].kind) := by simp
      have k1 : (wr.alloc (.cells #[.int .i64 m[i].kind, .string m[i].text] 43)).cell? ⟨wr.heap.size, 1, none⟩ = some (.string m[i].text) := by simp
      clear hrel hcells hTi hBi hln hV1 hV2 hV3 hT46 hv
      have s1' := Lib.hid s1
      have s2' := Lib.hid s2
      clear s1 s2
      generalize valE m[i] = VL at *
      generalize m[i].kind = k at *
      generalize m[i].text = T at *
      by_cases hp : i % 2 = 1
      · have q1 : ((i : Int) % 2 == 1) = true := beq_iff_eq.2 (by omega)
        have q2 : ((i : Int) % 2 == 0) = false := beq_eq_false_iff_ne.2 (by omega)
        obtain ⟨y1, y2⟩ := s1'.out hp
        generalize isT 46 ⟨k, T⟩ = tt at *
        have HV := Lib.hid hV
        cases tt with
        | true =>
          have HNX := Lib.hid (y1 rfl)
          have HI := Lib.hid hI
          clear hV hI y1 y2 hp s1' s2' hlm hB
          go_wp2_with (first
            | (go_at_call 46; (with_reducible refine (HI.out _).mono ?_); rintro e w1 ⟨rfl, hb1⟩; have tb := tb.trans (hb1.mono tb.size); have hB2 := hB2.below hb1 (Nat.le_refl _); have k0 := laterW hb1 k0; have k1 := laterW hb1 k1)
            | (go_at_call 82; (with_reducible refine (HV.out _).mono ?_); rintro e w3 ⟨rfl, hb3⟩; have tb := tb.trans (hb3.mono tb.size); have hB2 := hB2.below hb3 (Nat.le_refl _); have hS := ws w.heap.size w.heap.size acc V _ hB2 hVb tb.size)
            | (go_at_call 70; (with_reducible refine hS.mono ?_); rintro e w4 ⟨rfl, hB4, hb4, -⟩))
          go_roundw
          case rel => exact ⟨i + 1, _, by go_num, by rw [← HVl.out]; exact hB4, tb.trans hb4, by omega, HNX⟩
          case measure => simp [intOf]; omega
        | false =>
          have HX := Lib.hid (y2 rfl)
          have HI := Lib.hid hI
          clear hV hI y1 y2 hp s1' s2' hlm hB HV
          go_wp2_with (go_at_call 46; (with_reducible refine (HI.out _).mono ?_); rintro e w1 ⟨rfl, hb1⟩; have tb := tb.trans (hb1.mono tb.size))
          go_ret2
          rw [HX.out]
          exact ⟨rfl, tb⟩
      · have q1 : ((i : Int) % 2 == 1) = false := beq_eq_false_iff_ne.2 (by omega)
        have q2 : ((i : Int) % 2 == 0) = true := beq_iff_eq.2 (by omega)
        obtain ⟨y1, y2⟩ := s2'.out (by omega)
        have HV := Lib.hid hV
        have HI := Lib.hid hI
        by_cases ka : k = 1
        · have r1 : ((k : Int) != 1) = false := by rw [bne, beq_iff_eq.2 (by omega)]; rfl
          have HNX := Lib.hid (y1 (.inl ka))
          clear hV hI y1 y2 hp s1' s2' hlm hB ka
          go_wp2_with (first
            | (go_at_call 46; (with_reducible refine (HI.out _).mono ?_); rintro e w1 ⟨rfl, hb1⟩; have tb := tb.trans (hb1.mono tb.size); have hB2 := hB2.below hb1 (Nat.le_refl _); have k0 := laterW hb1 k0; have k1 := laterW hb1 k1)
            | (go_at_call 82; (with_reducible refine (HV.out _).mono ?_); rintro e w3 ⟨rfl, hb3⟩; have tb := tb.trans (hb3.mono tb.size); have hB2 := hB2.below hb3 (Nat.le_refl _); have hS := ws w.heap.size w.heap.size acc V _ hB2 hVb tb.size)
            | (go_at_call 70; (with_reducible refine hS.mono ?_); rintro e w4 ⟨rfl, hB4, hb4, -⟩))
          go_roundw
          case rel => exact ⟨i + 1, _, by go_num, by rw [← HVl.out]; exact hB4, tb.trans hb4, by omega, HNX⟩
          case measure => simp [intOf]; omega
        · have r1 : ((k : Int) != 1) = true := by rw [bne, beq_eq_false_iff_ne.2 (by omega)]; rfl
          by_cases kb : k = 1
          · skip
            exact absurd kb ka
          · have r2 : ((k : Int) != 1) = true := by rw [bne, beq_eq_false_iff_ne.2 (by omega)]; rfl
            have HX := Lib.hid (y2 (fun hh => by rcases hh with hh | hh; exact ka hh; exact kb hh))
            clear hV hI y1 y2 hp s1' s2' hlm hB ka kb HV
            go_wp2_with (go_at_call 46; (with_reducible refine (HI.out _).mono ?_); rintro e w1 ⟨rfl, hb1⟩; have tb := tb.trans (hb1.mono tb.size))
            go_ret2
            rw [HX.out]
            exact ⟨rfl, tb⟩
    · obtain ⟨hX, hX2⟩ := rw_end hrel.out (by rw [HL.out]; exact hlt)
      rw [HL.out] at hX2
      have hS := bstr w.heap.size w.heap.size acc wr hB hsz
      rw [hX] at hS
      have HS := Lib.hid hS
      have HX := Lib.hid hX2
      clear hS hrel hX hX2 hB HM HT HV0
      generalize vals m = VM at *
      rcases Nat.mod_two_eq_zero_or_one n with hp | hp
      · have q1 : ((n : Int) % 2 == 1) = false := beq_eq_false_iff_ne.2 (by omega)
        have q2 : (n % 2 == 1) = false := by rw [hp]; rfl
        have Q2 := Lib.hid q2
        clear q2 hp
        go_wp2_with (go_at_call 71; (with_reducible refine HS.out.mono ?_); rintro e w' ⟨rfl, -, hb3, -⟩)
        go_ret2
        rw [HX.out]
        exact ⟨by rw [Q2.out]; rfl, hbel.trans hb3⟩
      · have q1 : ((n : Int) % 2 == 1) = true := beq_iff_eq.2 (by omega)
        have q2 : (n % 2 == 1) = true := by rw [hp]; rfl
        have Q2 := Lib.hid q2
        clear q2 hp
        go_wp2_with (go_at_call 71; (with_reducible refine HS.out.mono ?_); rintro e w' ⟨rfl, -, hb3, -⟩)
        go_ret2
        rw [HX.out]
        exact ⟨by rw [Q2.out]; rfl, hbel.trans hb3⟩
end Go.Proofs.YtilccofdphohiaaGreatDoor
namespace Go.Proofs.YtilccofdphohiaaGreatDoor
open Go.RowKit Pk Ad Fo

/-- where the first such token stands, -1 if there is none -/
def ixI (b : UInt8) (m : List El) : Int := if ixT b m < m.length then (ixT b m : Int) else -1
def NoneT (b : UInt8) (m : List El) (i : Nat) : Prop := ∀ (j : Nat) (h : j < m.length), j < i → isT b m[j] = false
theorem ix_hit {b : UInt8} {m : List El} {i : Nat} (h : NoneT b m i) (hi : i < m.length) (ht : isT b m[i] = true) : ixI b m = i := by
  have e : ixT b m = i := (List.findIdx_eq hi).2 ⟨ht, fun j hj => h j (by omega) hj⟩
  unfold ixI
  rw [e, if_pos hi]
theorem ix_miss {b : UInt8} {m : List El} {i : Nat} (h : NoneT b m i) (hi : ¬ i < m.length) : ixI b m = -1 := by
  have e : ixT b m = m.length := List.findIdx_eq_length.2 fun x hx => by
    obtain ⟨j, hj, rfl⟩ := List.getElem_of_mem hx
    exact h j hj (by omega)
  unfold ixI
  rw [e, if_neg (Nat.lt_irrefl _)]
theorem none_step {b : UInt8} {m : List El} {i : Nat} (h : NoneT b m i) (hi : i < m.length) (ht : isT b m[i] = false) : NoneT b m (i + 1) := fun j hj hji => by
  by_cases e : j = i
  · subst e; exact ht
  · exact h j hj (by omega)
set_option maxHeartbeats 1000000 in
set_option maxRecDepth 100000 in
theorem ix_at (p : Option Addr) (n c : Nat) (m : List El) (w : World) (h : TSl w p n c m) (hn : n ≤ 10000000) : Calls Tryz.prog 47 #[.slice p n c, .func (.func 78) #[] #[]] w fun e w' => e = .returned (.int .i64 (ixI 64 m)) ∧ Below w.heap.size w w' := by
  obtain ⟨hl, hc, hm⟩ := h
  have HL := Lib.hid hl
  have HM := Lib.hid hm
  have eg := enters_of Tryz.func78 (by kernel_rfl) rfl
  clear hl hm
  go_enter Tryz.func47, Tryz.ntmps47
  go_wp2
  go_loopw [8] (fun iv wr => ∃ i : Nat, iv = .int .i64 i ∧ Below w.heap.size w wr ∧ i ≤ n ∧ Hid (NoneT 64 m i)) (fun iv _ => n - (intOf iv).toNat)
  case atStart => exact ⟨0, by first | rfl | trivial, Below.refl _ _, by omega, fun j hj h => by omega⟩
  case round =>
    obtain ⟨i, rfl, hbel, hi, hrel⟩ := hrel
    by_cases hlt : i < n
    · have hlm : i < m.length := by rw [HL.out]; exact hlt
      obtain ⟨g, o, rfl, hcells⟩ : ∃ g o, p = some ⟨g, o, none⟩ ∧ tokAt w g o m := by
        rcases HM.out with h | h
        · rw [h] at hlm; simp at hlm
        · exact h
      obtain ⟨c0, c1⟩ := hcells i hlm
      have c0 := laterW (hbel.mono (Nat.le_refl _)) c0
      have c1 := laterW (hbel.mono (Nat.le_refl _)) c1
      have hP : Calls Tryz.prog 78 #[.agg #[.int .i64 m[i].kind, .string m[i].text]] wr fun e w' => e = .returned (.bool (isT 64 m[i])) ∧ Below w.heap.size w w' := at_pred w wr m[i] hbel
      have h1 := fun ht => ix_hit hrel.out hlm ht
      have h2 := fun ht => none_step hrel.out hlm ht
      generalize isT 64 m[i] = tt at *
      generalize m[i].kind = k at *
      generalize m[i].text = T at *
      have HP := Lib.hid hP
      cases tt with
      | true =>
        have HX := Lib.hid (h1 rfl)
        clear h1 h2 hP hrel hcells hlm
        go_wp2_with (go_at_call 78; (with_reducible refine HP.out.mono ?_); rintro e w2 ⟨rfl, hb2⟩)
        go_ret
        rw [HX.out]
        exact ⟨rfl, hb2⟩
      | false =>
        have HX := Lib.hid (h2 rfl)
        clear h1 h2 hP hrel hcells hlm
        go_wp2_with (go_at_call 78; (with_reducible refine HP.out.mono ?_); rintro e w2 ⟨rfl, hb2⟩)
        go_roundw
        case rel => exact ⟨i + 1, by go_num, hb2, by omega, HX.out⟩
        case measure => simp [intOf]; omega
    · have HX := Lib.hid (ix_miss hrel.out (by rw [HL.out]; exact hlt))
      clear hrel
      go_wp2
      go_ret
      rw [HX.out]
      exact ⟨rfl, hbel⟩
set_option maxHeartbeats 1000000 in
set_option maxRecDepth 100000 in
theorem ix_lt (p : Option Addr) (n c : Nat) (m : List El) (w : World) (h : TSl w p n c m) (hn : n ≤ 10000000) : Calls Tryz.prog 47 #[.slice p n c, .func (.func 48) #[] #[]] w fun e w' => e = .returned (.int .i64 (ixI 60 m)) ∧ Below w.heap.size w w' := by
  obtain ⟨hl, hc, hm⟩ := h
  have HL := Lib.hid hl
  have HM := Lib.hid hm
  have eg := enters_of Tryz.func48 (by kernel_rfl) rfl
  clear hl hm
  go_enter Tryz.func47, Tryz.ntmps47
  go_wp2
  go_loopw [8] (fun iv wr => ∃ i : Nat, iv = .int .i64 i ∧ Below w.heap.size w wr ∧ i ≤ n ∧ Hid (NoneT 60 m i)) (fun iv _ => n - (intOf iv).toNat)
  case atStart => exact ⟨0, by first | rfl | trivial, Below.refl _ _, by omega, fun j hj h => by omega⟩
  case round =>
    obtain ⟨i, rfl, hbel, hi, hrel⟩ := hrel
    by_cases hlt : i < n
    · have hlm : i < m.length := by rw [HL.out]; exact hlt
      obtain ⟨g, o, rfl, hcells⟩ : ∃ g o, p = some ⟨g, o, none⟩ ∧ tokAt w g o m := by
        rcases HM.out with h | h
        · rw [h] at hlm; simp at hlm
        · exact h
      obtain ⟨c0, c1⟩ := hcells i hlm
      have c0 := laterW (hbel.mono (Nat.le_refl _)) c0
      have c1 := laterW (hbel.mono (Nat.le_refl _)) c1
      have hP : Calls Tryz.prog 48 #[.agg #[.int .i64 m[i].kind, .string m[i].text]] wr fun e w' => e = .returned (.bool (isT 60 m[i])) ∧ Below w.heap.size w w' := lt_pred w wr m[i] hbel
      have h1 := fun ht => ix_hit hrel.out hlm ht
      have h2 := fun ht => none_step hrel.out hlm ht
      generalize isT 60 m[i] = tt at *
      generalize m[i].kind = k at *
      generalize m[i].text = T at *
      have HP := Lib.hid hP
      cases tt with
      | true =>
        have HX := Lib.hid (h1 rfl)
        clear h1 h2 hP hrel hcells hlm
        go_wp2_with (go_at_call 48; (with_reducible refine HP.out.mono ?_); rintro e w2 ⟨rfl, hb2⟩)
        go_ret
        rw [HX.out]
        exact ⟨rfl, hb2⟩
      | false =>
        have HX := Lib.hid (h2 rfl)
        clear h1 h2 hP hrel hcells hlm
        go_wp2_with (go_at_call 48; (with_reducible refine HP.out.mono ?_); rintro e w2 ⟨rfl, hb2⟩)
        go_roundw
        case rel => exact ⟨i + 1, by go_num, hb2, by omega, HX.out⟩
        case measure => simp [intOf]; omega
    · have HX := Lib.hid (ix_miss hrel.out (by rw [HL.out]; exact hlt))
      clear hrel
      go_wp2
      go_ret
      rw [HX.out]
      exact ⟨rfl, hbel⟩
set_option maxHeartbeats 1000000 in
set_option maxRecDepth 100000 in
theorem ix_gt (p : Option Addr) (n c : Nat) (m : List El) (w : World) (h : TSl w p n c m) (hn : n ≤ 10000000) : Calls Tryz.prog 47 #[.slice p n c, .func (.func 51) #[] #[]] w fun e w' => e = .returned (.int .i64 (ixI 62 m)) ∧ Below w.heap.size w w' := by
  obtain ⟨hl, hc, hm⟩ := h
  have HL := Lib.hid hl
  have HM := Lib.hid hm
  have eg := enters_of Tryz.func51 (by kernel_rfl) rfl
  clear hl hm
  go_enter Tryz.func47, Tryz.ntmps47
  go_wp2
  go_loopw [8] (fun iv wr => ∃ i : Nat, iv = .int .i64 i ∧ Below w.heap.size w wr ∧ i ≤ n ∧ Hid (NoneT 62 m i)) (fun iv _ => n - (intOf iv).toNat)
  case atStart => exact ⟨0, by first | rfl | trivial, Below.refl _ _, by omega, fun j hj h => by omega⟩
  case round =>
    obtain ⟨i, rfl, hbel, hi, hrel⟩ := hrel
    by_cases hlt : i < n
    · have hlm : i < m.length := by rw [HL.out]; exact hlt
      obtain ⟨g, o, rfl, hcells⟩ : ∃ g o, p = some ⟨g, o, none⟩ ∧ tokAt w g o m := by
        rcases HM.out with h | h
        · rw [h] at hlm; simp at hlm
        · exact h
      obtain ⟨c0, c1⟩ := hcells i hlm
      have c0 := laterW (hbel.mono (Nat.le_refl _)) c0
      have c1 := laterW (hbel.mono (Nat.le_refl _)) c1
      have hP : Calls Tryz.prog 51 #[.agg #[.int .i64 m[i].kind, .string m[i].text]] wr fun e w' => e = .returned (.bool (isT 62 m[i])) ∧ Below w.heap.size w w' := gt_pred w wr m[i] hbel
      have h1 := fun ht => ix_hit hrel.out hlm ht
      have h2 := fun ht => none_step hrel.out hlm ht
      generalize isT 62 m[i] = tt at *
      generalize m[i].kind = k at *
      generalize m[i].text = T at *
      have HP := Lib.hid hP
      cases tt with
      | true =>
        have HX := Lib.hid (h1 rfl)
        clear h1 h2 hP hrel hcells hlm
        go_wp2_with (go_at_call 51; (with_reducible refine HP.out.mono ?_); rintro e w2 ⟨rfl, hb2⟩)
        go_ret
        rw [HX.out]
        exact ⟨rfl, hb2⟩
      | false =>
        have HX := Lib.hid (h2 rfl)
        clear h1 h2 hP hrel hcells hlm
        go_wp2_with (go_at_call 51; (with_reducible refine HP.out.mono ?_); rintro e w2 ⟨rfl, hb2⟩)
        go_roundw
        case rel => exact ⟨i + 1, by go_num, hb2, by omega, HX.out⟩
        case measure => simp [intOf]; omega
    · have HX := Lib.hid (ix_miss hrel.out (by rw [HL.out]; exact hlt))
      clear hrel
      go_wp2
      go_ret
      rw [HX.out]
      exact ⟨rfl, hbel⟩
set_option maxHeartbeats 1000000 in
set_option maxRecDepth 100000 in
theorem ix_cn (p : Option Addr) (n c : Nat) (m : List El) (w : World) (h : TSl w p n c m) (hn : n ≤ 10000000) : Calls Tryz.prog 47 #[.slice p n c, .func (.func 52) #[] #[]] w fun e w' => e = .returned (.int .i64 (ixI 58 m)) ∧ Below w.heap.size w w' := by
  obtain ⟨hl, hc, hm⟩ := h
  have HL := Lib.hid hl
  have HM := Lib.hid hm
  have eg := enters_of Tryz.func52 (by kernel_rfl) rfl
  clear hl hm
  go_enter Tryz.func47, Tryz.ntmps47
  go_wp2
  go_loopw [8] (fun iv wr => ∃ i : Nat, iv = .int .i64 i ∧ Below w.heap.size w wr ∧ i ≤ n ∧ Hid (NoneT 58 m i)) (fun iv _ => n - (intOf iv).toNat)
  case atStart => exact ⟨0, by first | rfl | trivial, Below.refl _ _, by omega, fun j hj h => by omega⟩
  case round =>
    obtain ⟨i, rfl, hbel, hi, hrel⟩ := hrel
    by_cases hlt : i < n
    · have hlm : i < m.length := by rw [HL.out]; exact hlt
      obtain ⟨g, o, rfl, hcells⟩ : ∃ g o, p = some ⟨g, o, none⟩ ∧ tokAt w g o m := by
        rcases HM.out with h | h
        · rw [h] at hlm; simp at hlm
        · exact h
      obtain ⟨c0, c1⟩ := hcells i hlm
      have c0 := laterW (hbel.mono (Nat.le_refl _)) c0
      have c1 := laterW (hbel.mono (Nat.le_refl _)) c1
      have hP : Calls Tryz.prog 52 #[.agg #[.int .i64 m[i].kind, .string m[i].text]] wr fun e w' => e = .returned (.bool (isT 58 m[i])) ∧ Below w.heap.size w w' := cn_pred w wr m[i] hbel
      have h1 := fun ht => ix_hit hrel.out hlm ht
      have h2 := fun ht => none_step hrel.out hlm ht
      generalize isT 58 m[i] = tt at *
      generalize m[i].kind = k at *
      generalize m[i].text = T at *
      have HP := Lib.hid hP
      cases tt with
      | true =>
        have HX := Lib.hid (h1 rfl)
        clear h1 h2 hP hrel hcells hlm
        go_wp2_with (go_at_call 52; (with_reducible refine HP.out.mono ?_); rintro e w2 ⟨rfl, hb2⟩)
        go_ret
        rw [HX.out]
        exact ⟨rfl, hb2⟩
      | false =>
        have HX := Lib.hid (h2 rfl)
        clear h1 h2 hP hrel hcells hlm
        go_wp2_with (go_at_call 52; (with_reducible refine HP.out.mono ?_); rintro e w2 ⟨rfl, hb2⟩)
        go_roundw
        case rel => exact ⟨i + 1, by go_num, hb2, by omega, HX.out⟩
        case measure => simp [intOf]; omega
    · have HX := Lib.hid (ix_miss hrel.out (by rw [HL.out]; exact hlt))
      clear hrel
      go_wp2
      go_ret
      rw [HX.out]
      exact ⟨rfl, hbel⟩
end Go.Proofs.YtilccofdphohiaaGreatDoor
namespace Go.Proofs.YtilccofdphohiaaGreatDoor
open Go.RowKit Pk Ad Tk Fo

theorem wb32a (B b : Nat) (l : List UInt8) (w : World) (h : Bld w B b l) (hl : l.length + 1 ≤ 140737488355328) (hB : B ≤ w.heap.size) :
    Calls Tryz.prog 81 #[.pointer (some ⟨b, 0, none⟩), .int .u8 32] w fun e w' => e = .returned .nilIface ∧ Bld w' B b (l ++ [32]) ∧ Below B w w' ∧ Lib.OthersKept 5 (some b) w w' := wb B b l 32 w h (by decide) (by decide) hl hB
theorem tok_kept {w w' : World} {b g : Nat} {cs : Array Value} {fz : Nat × Nat} (h : Lib.OthersKept 5 (some b) w w') (hg : w.heap[g]? = some (.cells cs 43 fz)) (hne : g ≠ b) : w'.heap[g]? = some (.cells cs 43 fz) :=
  h g _ hg (fun e => hne (Option.some.inj e)) (fun c f e => by injection e with _ e2 _; exact absurd e2 (by decide))
theorem isT_kind {b : UInt8} {t : El} (h : isT b t = true) : t.kind = 4 := by
  unfold isT at h
  rw [Bool.and_eq_true] at h
  exact beq_iff_eq.1 h.1
def NmAt (m : List El) (i : Nat) (acc : List UInt8) : Prop := acc ++ namL (i == 0) (m.drop i) = namL true m ∧ namOk (m.drop i) = namOk m
theorem nm_start (m : List El) : NmAt m 0 [] := ⟨rfl, rfl⟩
theorem nm_step {m : List El} {i : Nat} {acc : List UInt8} (h : NmAt m i acc) (hi : i < m.length) :
    ((m[i].kind = 1 ∨ m[i].kind = 2 ∨ isT 46 m[i] = true) → (i = 0 ∨ isT 46 m[i] = true → NmAt m (i + 1) (acc ++ valE m[i])) ∧ (i ≠ 0 → isT 46 m[i] = false → NmAt m (i + 1) (acc ++ [32] ++ valE m[i]))) ∧
    (¬ (m[i].kind = 1 ∨ m[i].kind = 2 ∨ isT 46 m[i] = true) → namP m = ([], false)) := by
  obtain ⟨h1, h2⟩ := h
  rw [List.drop_eq_getElem_cons hi] at h1 h2
  have hs : (i + 1 == 0) = false := rfl
  refine ⟨fun ht => ?_, fun ht => ?_⟩
  · have hok : namOk (m.drop (i + 1)) = namOk m := by
      rw [← h2]
      unfold namOk
      rw [List.all_cons]
      have : (m[i].kind == 1 || m[i].kind == 2 || isT 46 m[i]) = true := by
        rcases ht with e | e | e
        · rw [e]; rfl
        · rw [e]; rfl
        · rw [e, Bool.or_true]
      rw [this, Bool.true_and]
    refine ⟨fun hb => ⟨?_, hok⟩, fun h0 hb => ⟨?_, hok⟩⟩
    · rw [← h1, namL, hs, if_pos (by rcases hb with e | e; exact .inl (by rw [e]; rfl); exact .inr e), List.append_assoc]
    · have h0' : ¬ ((i == 0) = true ∨ isT 46 m[i] = true) := by
        rw [hb]
        intro h
        rcases h with h | h
        · exact h0 (beq_iff_eq.1 h)
        · cases h
      rw [← h1, namL, hs, if_neg h0']
      simp
  · unfold namP
    rw [if_neg]
    rw [← h2]
    unfold namOk
    rw [List.all_cons]
    have : (m[i].kind == 1 || m[i].kind == 2 || isT 46 m[i]) = false := by
      rw [Bool.or_eq_false_iff, Bool.or_eq_false_iff, beq_eq_false_iff_ne, beq_eq_false_iff_ne]
      refine ⟨⟨fun e => ht (.inl e), fun e => ht (.inr (.inl e))⟩, ?_⟩
      cases hh : isT 46 m[i] with
      | false => rfl
      | true => exact absurd (.inr (.inr hh)) ht
    rw [this]; simp
theorem nm_end {m : List El} {i : Nat} {acc : List UInt8} (h : NmAt m i acc) (hi : ¬ i < m.length) : acc = namL true m ∧ namP m = (namL true m, true) := by
  obtain ⟨h1, h2⟩ := h
  rw [List.drop_eq_nil_of_le (by omega)] at h1 h2
  refine ⟨by rw [← h1]; simp [namL], ?_⟩
  unfold namP
  rw [if_pos (by rw [← h2]; rfl)]
theorem nm_len {m : List El} {i : Nat} {acc : List UInt8} (h : NmAt m i acc) (hi : i < m.length) : acc.length + (valE m[i]).length ≤ (namL true m).length := by
  obtain ⟨h1, -⟩ := h
  rw [List.drop_eq_getElem_cons hi] at h1
  rw [← h1, namL, List.length_append, List.length_append]
  split
  · omega
  · rw [List.length_cons]; omega
set_option maxHeartbeats 4000000 in
set_option maxRecDepth 100000 in
theorem name_any (p : Option Addr) (n c : Nat) (m : List El) (w : World) (h : TSl w p n c m) (hn : n ≤ 10000000) (hv : (namL true m).length ≤ 100000000) (hT : ∀ t ∈ m, t.text.size ≤ 100000000) : Calls Tryz.prog 50 #[.slice p n c] w (PairS (namP m) w) := by
  obtain ⟨hl, hc, hm⟩ := h
  have hz : Hid (NmAt m 0 []) := nm_start _
  have hB0 := Bld.new w
  have hb0 : Below w.heap.size w (w.alloc (.cells #[.pointer none, .slice none 0 0] 92)) := (Below.refl _ _).alloc (Nat.le_refl _) _
  have HL := Lib.hid hl
  have HM := Lib.hid hm
  have HT := Lib.hid hT
  have HV0 := Lib.hid hv
  clear hl hm hT hv
  go_enter Tryz.func50, Tryz.ntmps50
  go_wp2
  go_loopw [9] (fun iv wr => ∃ (i : Nat) (acc : List UInt8), iv = .int .i64 i ∧ Bld wr w.heap.size w.heap.size acc ∧ Below w.heap.size w wr ∧ i ≤ n ∧ Hid (NmAt m i acc)) (fun iv _ => n - (intOf iv).toNat)
  case atStart => exact ⟨0, [], by first | rfl | trivial, hB0, hb0, by omega, hz⟩
  case round =>
    clear hz hb0 hB0
    obtain ⟨i, acc, rfl, hB, hbel, hi, hrel⟩ := hrel
    have hsz := hbel.size
    by_cases hlt : i < n
    · have hlm : i < m.length := by rw [HL.out]; exact hlt
      obtain ⟨g, o, rfl, hcells⟩ : ∃ g o, p = some ⟨g, o, none⟩ ∧ tokAt w g o m := by
        rcases HM.out with h | h
        · rw [h] at hlm; simp at hlm
        · exact h
      obtain ⟨c0, c1⟩ := hcells i hlm
      have c0 := cell_later hbel c0
      have c1 := cell_later hbel c1
      obtain ⟨s1, s2⟩ := nm_step hrel.out hlm
      have hln := nm_len hrel.out hlm
      have hv := HV0.out
      have hTi := HT.out _ (List.getElem_mem hlm)
      have hBi := valE_le m[i]
      have hV := fun w => value_any (m[i].kind : Int) m[i].text w hTi
      rw [valI_E] at hV
      obtain ⟨V, hV1, hV2, hV3⟩ := arrE (valE m[i])
      unfold StrIs at hV
      rw [← hV1] at hV
      have hVb : acc.length + V.size ≤ 140737488355328 := by rw [hV3]; omega
      have hVb1 : acc.length + 1 ≤ 140737488355328 := by omega
      have hVb2 : (acc ++ [32]).length + V.size ≤ 140737488355328 := by rw [List.length_append, hV3]; simp; omega
      have HVl := Lib.hid hV2
      have hI := fun w => is46 m[i].kind m[i].text w
      have hT46 : isT 46 m[i] = isT 46 ⟨m[i].kind, m[i].text⟩ := rfl
      have hkd : isT 46 m[i] = true → m[i].kind = 4 := isT_kind
      rw [hT46] at s1 s2 hkd
      have hB2 := hB.alloc (.cells #[.int .i64 m[i].kind, .string m[i].text] 43)
      have tb : Below w.heap.size w (wr.alloc (.cells #[.int .i64 m[i].kind, .string m[i].text] 43)) := hbel.alloc hsz _
      have kk : (wr.alloc (.cells #[.int .i64 m[i].kind, .string m[i].text] 43)).heap[wr.heap.size]? = some (.cells #[.int .i64 m[i].kind, .string m[i].text] 43 (0, 0)) := heap_alloc_new wr _
      have hne : wr.heap.size ≠ w.heap.size := by have := hB.lt; omega
      clear hrel hcells hTi hBi hln hV1 hV2 hV3 hT46 hv
      have s1' := Lib.hid s1
      have s2' := Lib.hid s2
      have hkd' := Lib.hid hkd
      clear s1 s2 hkd
      generalize valE m[i] = VL at *
      generalize m[i].kind = k at *
      generalize m[i].text = T at *
      have k0 : (wr.alloc (.cells #[.int .i64 k, .string T] 43)).cell? ⟨wr.heap.size, 0, none⟩ = some (.int .i64 k) := by simp
      have k1 : (wr.alloc (.cells #[.int .i64 k, .string T] 43)).cell? ⟨wr.heap.size, 1, none⟩ = some (.string T) := by simp
      have z0 : Hid ((#[.int .i64 k, .string T] : Array Value)[0]? = some (.int .i64 k)) := rfl
      have z1 : Hid ((#[.int .i64 k, .string T] : Array Value)[1]? = some (.string T)) := rfl
      have HV := Lib.hid hV
      clear hV
      generalize isT 46 ⟨k, T⟩ = tt at *
      cases tt with
      | true =>
        have hk4 := hkd'.out rfl
        have r1 : ((k : Int) != 1) = true := by rw [bne, beq_eq_false_iff_ne.2 (by omega)]; rfl
        have r2 : ((k : Int) != 2) = true := by rw [bne, beq_eq_false_iff_ne.2 (by omega)]; rfl
        have HNX := Lib.hid ((s1'.out (.inr (.inr rfl))).1 (.inr rfl))
        have HI := Lib.hid hI
        clear hI s1' s2' hkd' hlm hB hk4
        by_cases h0 : i = 0
        · have q3 : decide ((0 : Int) < (i : Int)) = false := decide_eq_false (by omega)
          have q4 : decide (0 < i) = false := decide_eq_false (by omega)
          clear h0
          go_wp2_with (first
            | (go_at_call 46; (with_reducible refine (HI.out _).mono ?_); rintro e w1 ⟨rfl, hb1⟩; have tb := tb.trans (hb1.mono tb.size); have hB2 := hB2.below hb1 (Nat.le_refl _); have kk := (hb1.block _ (lt_of_block kk)).trans kk; have k0 := (Lib.cell_of_heap kk 0).trans z0.out; have k1 := (Lib.cell_of_heap kk 1).trans z1.out)
            | (go_at_call 81; (with_reducible refine (wb32a w.heap.size w.heap.size acc _ hB2 hVb1 tb.size).mono ?_); rintro e w5 ⟨rfl, hB2, hb5, hk5⟩; have tb := tb.trans hb5; have kk := tok_kept hk5 kk hne; have k0 := (Lib.cell_of_heap kk 0).trans z0.out; have k1 := (Lib.cell_of_heap kk 1).trans z1.out)
            | (go_at_call 82; (with_reducible refine (HV.out _).mono ?_); rintro e w3 ⟨rfl, hb3⟩; have tb := tb.trans (hb3.mono tb.size); have hB2 := hB2.below hb3 (Nat.le_refl _); have hS := ws w.heap.size w.heap.size _ V _ hB2 (by first | exact hVb | exact hVb2) tb.size)
            | (go_at_call 70; (with_reducible refine hS.mono ?_); rintro e w4 ⟨rfl, hB4, hb4, -⟩))
          go_roundw
          case rel => exact ⟨i + 1, _, by go_num, by rw [← HVl.out]; exact hB4, tb.trans hb4, by omega, HNX⟩
          case measure => simp [intOf]; omega
        · have q3 : decide ((0 : Int) < (i : Int)) = true := decide_eq_true (by omega)
          have q4 : decide (0 < i) = true := decide_eq_true (by omega)
          clear h0
          go_wp2_with (first
            | (go_at_call 46; (with_reducible refine (HI.out _).mono ?_); rintro e w1 ⟨rfl, hb1⟩; have tb := tb.trans (hb1.mono tb.size); have hB2 := hB2.below hb1 (Nat.le_refl _); have kk := (hb1.block _ (lt_of_block kk)).trans kk; have k0 := (Lib.cell_of_heap kk 0).trans z0.out; have k1 := (Lib.cell_of_heap kk 1).trans z1.out)
            | (go_at_call 81; (with_reducible refine (wb32a w.heap.size w.heap.size acc _ hB2 hVb1 tb.size).mono ?_); rintro e w5 ⟨rfl, hB2, hb5, hk5⟩; have tb := tb.trans hb5; have kk := tok_kept hk5 kk hne; have k0 := (Lib.cell_of_heap kk 0).trans z0.out; have k1 := (Lib.cell_of_heap kk 1).trans z1.out)
            | (go_at_call 82; (with_reducible refine (HV.out _).mono ?_); rintro e w3 ⟨rfl, hb3⟩; have tb := tb.trans (hb3.mono tb.size); have hB2 := hB2.below hb3 (Nat.le_refl _); have hS := ws w.heap.size w.heap.size _ V _ hB2 (by first | exact hVb | exact hVb2) tb.size)
            | (go_at_call 70; (with_reducible refine hS.mono ?_); rintro e w4 ⟨rfl, hB4, hb4, -⟩))
          go_roundw
          case rel => exact ⟨i + 1, _, by go_num, by rw [← HVl.out]; exact hB4, tb.trans hb4, by omega, HNX⟩
          case measure => simp [intOf]; omega
      | false =>
        by_cases ka : k = 1
        · have r1 : ((k : Int) != 1) = false := by rw [bne, beq_iff_eq.2 (by omega)]; rfl
          have y1 := s1'.out (.inl ka)
          have y2 := trivial
          by_cases h0 : i = 0
          · have q3 : decide ((0 : Int) < (i : Int)) = false := decide_eq_false (by omega)
            have q4 : decide (0 < i) = false := decide_eq_false (by omega)
            have HNX := Lib.hid (y1.1 (.inl h0))
            have HI := Lib.hid hI
            clear hI y1 y2 hlm hB h0 ka s1' s2' hkd'
            go_wp2_with (first
              | (go_at_call 46; (with_reducible refine (HI.out _).mono ?_); rintro e w1 ⟨rfl, hb1⟩; have tb := tb.trans (hb1.mono tb.size); have hB2 := hB2.below hb1 (Nat.le_refl _); have kk := (hb1.block _ (lt_of_block kk)).trans kk; have k0 := (Lib.cell_of_heap kk 0).trans z0.out; have k1 := (Lib.cell_of_heap kk 1).trans z1.out)
              | (go_at_call 81; (with_reducible refine (wb32a w.heap.size w.heap.size acc _ hB2 hVb1 tb.size).mono ?_); rintro e w5 ⟨rfl, hB2, hb5, hk5⟩; have tb := tb.trans hb5; have kk := tok_kept hk5 kk hne; have k0 := (Lib.cell_of_heap kk 0).trans z0.out; have k1 := (Lib.cell_of_heap kk 1).trans z1.out)
              | (go_at_call 82; (with_reducible refine (HV.out _).mono ?_); rintro e w3 ⟨rfl, hb3⟩; have tb := tb.trans (hb3.mono tb.size); have hB2 := hB2.below hb3 (Nat.le_refl _); have hS := ws w.heap.size w.heap.size _ V _ hB2 (by first | exact hVb | exact hVb2) tb.size)
              | (go_at_call 70; (with_reducible refine hS.mono ?_); rintro e w4 ⟨rfl, hB4, hb4, -⟩))
            go_roundw
            case rel => exact ⟨i + 1, _, by go_num, by rw [← HVl.out]; exact hB4, tb.trans hb4, by omega, HNX⟩
            case measure => simp [intOf]; omega
          · have q3 : decide ((0 : Int) < (i : Int)) = true := decide_eq_true (by omega)
            have q4 : decide (0 < i) = true := decide_eq_true (by omega)
            have HNX := Lib.hid (y1.2 h0 rfl)
            have HI := Lib.hid hI
            clear hI y1 y2 hlm hB h0 ka s1' s2' hkd'
            go_wp2_with (first
              | (go_at_call 46; (with_reducible refine (HI.out _).mono ?_); rintro e w1 ⟨rfl, hb1⟩; have tb := tb.trans (hb1.mono tb.size); have hB2 := hB2.below hb1 (Nat.le_refl _); have kk := (hb1.block _ (lt_of_block kk)).trans kk; have k0 := (Lib.cell_of_heap kk 0).trans z0.out; have k1 := (Lib.cell_of_heap kk 1).trans z1.out)
              | (go_at_call 81; (with_reducible refine (wb32a w.heap.size w.heap.size acc _ hB2 hVb1 tb.size).mono ?_); rintro e w5 ⟨rfl, hB2, hb5, hk5⟩; have tb := tb.trans hb5; have kk := tok_kept hk5 kk hne; have k0 := (Lib.cell_of_heap kk 0).trans z0.out; have k1 := (Lib.cell_of_heap kk 1).trans z1.out)
              | (go_at_call 82; (with_reducible refine (HV.out _).mono ?_); rintro e w3 ⟨rfl, hb3⟩; have tb := tb.trans (hb3.mono tb.size); have hB2 := hB2.below hb3 (Nat.le_refl _); have hS := ws w.heap.size w.heap.size _ V _ hB2 (by first | exact hVb | exact hVb2) tb.size)
              | (go_at_call 70; (with_reducible refine hS.mono ?_); rintro e w4 ⟨rfl, hB4, hb4, -⟩))
            go_roundw
            case rel => exact ⟨i + 1, _, by go_num, by rw [← HVl.out]; exact hB4, tb.trans hb4, by omega, HNX⟩
            case measure => simp [intOf]; omega
        · have r1 : ((k : Int) != 1) = true := by rw [bne, beq_eq_false_iff_ne.2 (by omega)]; rfl
          by_cases kb : k = 2
          · have r2 : ((k : Int) != 2) = false := by rw [bne, beq_iff_eq.2 (by omega)]; rfl
            have y1 := s1'.out (.inr (.inl kb))
            have y2 := trivial
            by_cases h0 : i = 0
            · have q3 : decide ((0 : Int) < (i : Int)) = false := decide_eq_false (by omega)
              have q4 : decide (0 < i) = false := decide_eq_false (by omega)
              have HNX := Lib.hid (y1.1 (.inl h0))
              have HI := Lib.hid hI
              clear hI y1 y2 hlm hB h0 ka kb s1' s2' hkd'
              go_wp2_with (first
                | (go_at_call 46; (with_reducible refine (HI.out _).mono ?_); rintro e w1 ⟨rfl, hb1⟩; have tb := tb.trans (hb1.mono tb.size); have hB2 := hB2.below hb1 (Nat.le_refl _); have kk := (hb1.block _ (lt_of_block kk)).trans kk; have k0 := (Lib.cell_of_heap kk 0).trans z0.out; have k1 := (Lib.cell_of_heap kk 1).trans z1.out)
                | (go_at_call 81; (with_reducible refine (wb32a w.heap.size w.heap.size acc _ hB2 hVb1 tb.size).mono ?_); rintro e w5 ⟨rfl, hB2, hb5, hk5⟩; have tb := tb.trans hb5; have kk := tok_kept hk5 kk hne; have k0 := (Lib.cell_of_heap kk 0).trans z0.out; have k1 := (Lib.cell_of_heap kk 1).trans z1.out)
                | (go_at_call 82; (with_reducible refine (HV.out _).mono ?_); rintro e w3 ⟨rfl, hb3⟩; have tb := tb.trans (hb3.mono tb.size); have hB2 := hB2.below hb3 (Nat.le_refl _); have hS := ws w.heap.size w.heap.size _ V _ hB2 (by first | exact hVb | exact hVb2) tb.size)
                | (go_at_call 70; (with_reducible refine hS.mono ?_); rintro e w4 ⟨rfl, hB4, hb4, -⟩))
              go_roundw
              case rel => exact ⟨i + 1, _, by go_num, by rw [← HVl.out]; exact hB4, tb.trans hb4, by omega, HNX⟩
              case measure => simp [intOf]; omega
            · have q3 : decide ((0 : Int) < (i : Int)) = true := decide_eq_true (by omega)
              have q4 : decide (0 < i) = true := decide_eq_true (by omega)
              have HNX := Lib.hid (y1.2 h0 rfl)
              have HI := Lib.hid hI
              clear hI y1 y2 hlm hB h0 ka kb s1' s2' hkd'
              go_wp2_with (first
                | (go_at_call 46; (with_reducible refine (HI.out _).mono ?_); rintro e w1 ⟨rfl, hb1⟩; have tb := tb.trans (hb1.mono tb.size); have hB2 := hB2.below hb1 (Nat.le_refl _); have kk := (hb1.block _ (lt_of_block kk)).trans kk; have k0 := (Lib.cell_of_heap kk 0).trans z0.out; have k1 := (Lib.cell_of_heap kk 1).trans z1.out)
                | (go_at_call 81; (with_reducible refine (wb32a w.heap.size w.heap.size acc _ hB2 hVb1 tb.size).mono ?_); rintro e w5 ⟨rfl, hB2, hb5, hk5⟩; have tb := tb.trans hb5; have kk := tok_kept hk5 kk hne; have k0 := (Lib.cell_of_heap kk 0).trans z0.out; have k1 := (Lib.cell_of_heap kk 1).trans z1.out)
                | (go_at_call 82; (with_reducible refine (HV.out _).mono ?_); rintro e w3 ⟨rfl, hb3⟩; have tb := tb.trans (hb3.mono tb.size); have hB2 := hB2.below hb3 (Nat.le_refl _); have hS := ws w.heap.size w.heap.size _ V _ hB2 (by first | exact hVb | exact hVb2) tb.size)
                | (go_at_call 70; (with_reducible refine hS.mono ?_); rintro e w4 ⟨rfl, hB4, hb4, -⟩))
              go_roundw
              case rel => exact ⟨i + 1, _, by go_num, by rw [← HVl.out]; exact hB4, tb.trans hb4, by omega, HNX⟩
              case measure => simp [intOf]; omega
          · have r2 : ((k : Int) != 2) = true := by rw [bne, beq_eq_false_iff_ne.2 (by omega)]; rfl
            have HX := Lib.hid (s2'.out (fun hh => by
              rcases hh with hh | hh | hh
              · exact ka hh
              · exact kb hh
              · cases hh))
            have HI := Lib.hid hI
            clear hI s1' s2' hkd' hlm hB ka kb HV
            go_wp2_with (go_at_call 46; (with_reducible refine (HI.out _).mono ?_); rintro e w1 ⟨rfl, hb1⟩; have tb := tb.trans (hb1.mono tb.size))
            go_ret2
            rw [HX.out]
            exact ⟨rfl, tb⟩
    · obtain ⟨hX, hX2⟩ := nm_end hrel.out (by rw [HL.out]; exact hlt)
      have hS := bstr w.heap.size w.heap.size acc wr hB hsz
      rw [hX] at hS
      have HS := Lib.hid hS
      have HX := Lib.hid hX2
      clear hS hrel hX hX2 hB HM HT HV0
      generalize namL true m = VM at *
      go_wp2_with (go_at_call 71; (with_reducible refine HS.out.mono ?_); rintro e w' ⟨rfl, -, hb3, -⟩)
      go_ret2
      rw [HX.out]
      exact ⟨rfl, hbel.trans hb3⟩
end Go.Proofs.YtilccofdphohiaaGreatDoor
