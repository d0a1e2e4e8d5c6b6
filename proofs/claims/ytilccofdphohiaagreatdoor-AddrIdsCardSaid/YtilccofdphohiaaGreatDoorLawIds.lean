/- Walks: chapter 11's laws: AddrIds. -/
import Derived.Test.YtilccofdphohiaaGreatDoorAdXY
import Derived.Test.YtilccofdphohiaaGreatDoorAdPl
import Derived.SliceStrings
import Derived.OpenShut
import Derived.WideShapes
namespace Go.Proofs.YtilccofdphohiaaGreatDoor
open Go.RowKit Pk Ad Tk

set_option maxRecDepth 100000 in
theorem laidOut : laidOutB Tryz.prog = true := by kernel_rfl
set_option maxRecDepth 100000 in
theorem strs_of {H : Type} {enc : TypeId × Value → H} {W : World} {v : Value} {d : DataW H} {p : List MemPlace} {base : Nat} (hv : Value.okWide Tryz.prog W .any base 28 v) (h : DataW.Trod enc Tryz.prog W 0 (fun _ => true) true 28 v d p) : ∃ ns, TxSees W v ns := by
  obtain ⟨fuel, hf⟩ := h
  obtain ⟨a0, len0, cap0, rfl⟩ := WideShapes.okWide_slice Tryz.underlying28 hv
  rcases ChangeShapes.open_strings Tryz.underlying28 Tryz.underlying9 (by kernel_rfl) hf with ⟨hc, -⟩ | ⟨a, len, cap, zs, hc, -, h1, h2, h3, -, h4, -⟩
  · have hc : Value.slice a0 len0 cap0 = .slice none 0 0 := List.head_eq_of_cons_eq hc
    exact ⟨[], none, 0, hc, Nat.le_refl _, .inl rfl⟩
  · have hc : Value.slice a0 len0 cap0 = .slice (some a) len cap := List.head_eq_of_cons_eq hc
    rw [if_pos rfl] at h3
    have hl : (zs.take len).length = len := by rw [List.length_take]; omega
    refine ⟨zs.take len, some a, cap, by rw [hl]; exact hc, by rw [hl]; exact h1, ?_⟩
    by_cases h0 : len = 0
    · left; rw [h0, List.take_zero]
    · right
      obtain ⟨b, off, spot⟩ := a
      have hspot : spot = none := by simpa [Addr.add] using World.cell?_spot (h4 0 (by omega))
      subst hspot
      refine ⟨b, off, rfl, fun j hj => ?_⟩
      rw [hl] at hj
      rw [← Go.WideShapes.add_plain, h4 j (by omega), List.getElem_take]
      congr 2
      rw [List.getD_eq_getElem?_getD, List.getElem?_eq_getElem (by omega)]; rfl
def bl (b : ByteArray) : List UInt8 := b.data.toList
def n60 (c : UInt8) : Bool := !(c == 60)
def okI (c : UInt8) : Bool := !endI c
/-- what the loop over the strings between the ids has shown -/
def IdAt (ids bs : List ByteArray) (i : Nat) (S : ByteArray) : Prop :=
  (∀ b ∈ bs.take i, (bl b).all n60 = true) ∧ (∀ x ∈ ids.take i, (bl x).all okI = true ∧ 1 ≤ x.size ∧ x.size ≤ 250) ∧
  (i ≤ ids.length → bl S = idPre ((ids.take i).map bl) ((bs.take i).map bl)) ∧ (ids.length < i → bl S = idStr (ids.map bl) (bs.map bl))
theorem app_sizeI (A B : ByteArray) : (A ++ B : ByteArray).size = A.size + B.size := ByteArray.size_append
theorem id_zero (ids bs : List ByteArray) : IdAt ids bs 0 ⟨#[]⟩ := by
  refine ⟨fun b hb => ?_, fun b hb => ?_, fun _ => rfl, fun h => absurd h (Nat.not_lt_zero _)⟩
  · simp at hb
  · simp at hb
theorem bl_app (A B : ByteArray) : bl (A ++ B) = bl A ++ bl B := by simp [bl, ByteArray.data_append]
theorem mem_snoc {α : Type} {l : List α} {i : Nat} (h : i < l.length) {x : α} (hx : x ∈ l.take (i + 1)) : x ∈ l.take i ∨ x = l[i] := by
  rw [List.take_succ_eq_append_getElem h] at hx
  rcases List.mem_append.1 hx with hx | hx
  · exact .inl hx
  · exact .inr (List.mem_singleton.1 hx)
theorem id_step {ids bs : List ByteArray} {i : Nat} {S : ByteArray} (h : Hid (IdAt ids bs i S)) (hl : bs.length = ids.length + 1) (h1 : i < ids.length) (h2 : i < bs.length) (hb : (bl bs[i]).all n60 = true) (hi : (bl ids[i]).all okI = true) (z1 : 1 ≤ ids[i].size) (z2 : ids[i].size ≤ 250) :
    Hid (IdAt ids bs (i + 1) (S ++ bs[i] ++ ⟨#[60]⟩ ++ ids[i] ++ ⟨#[62]⟩)) := by
  obtain ⟨e1, e2, e3, -⟩ := h.out
  refine ⟨fun b hb2 => ?_, fun x hx => ?_, fun _ => ?_, fun h => absurd h (by omega)⟩
  · rcases mem_snoc h2 hb2 with h | rfl
    · exact e1 b h
    · exact hb
  · rcases mem_snoc h1 hx with h | rfl
    · exact e2 x h
    · exact ⟨hi, z1, z2⟩
  · rw [List.take_succ_eq_append_getElem h1, List.take_succ_eq_append_getElem h2, List.map_append, List.map_append]
    have := pre_snoc ((ids.take i).map bl) ((bs.take i).map bl) (bl ids[i]) (bl bs[i]) (by rw [List.length_map, List.length_map, List.length_take, List.length_take]; omega)
    show _ = idPre ((ids.take i).map bl ++ [bl ids[i]]) ((bs.take i).map bl ++ [bl bs[i]])
    rw [this, bl_app, bl_app, bl_app, bl_app, e3 (by omega)]
    show _ ++ _ ++ [60] ++ _ ++ [62] = _
    simp
theorem id_last {ids bs : List ByteArray} {i : Nat} {S : ByteArray} (h : Hid (IdAt ids bs i S)) (hl : bs.length = ids.length + 1) (h1 : i = ids.length) (h2 : i < bs.length) (hb : (bl bs[i]).all n60 = true) :
    Hid (IdAt ids bs (i + 1) (S ++ bs[i])) := by
  obtain ⟨e1, e2, e3, -⟩ := h.out
  refine ⟨fun b hb2 => ?_, fun x hx => e2 x ?_, fun h => absurd h (by omega), fun _ => ?_⟩
  · rcases mem_snoc h2 hb2 with h | rfl
    · exact e1 b h
    · exact hb
  · rw [List.take_of_length_le (by omega)] at hx ⊢; exact hx
  · rw [bl_app, e3 (by omega), List.take_of_length_le (by omega)]
    have hs := str_pre (ids.map bl) ((bs.take i).map bl) (bl bs[i]) (by rw [List.length_map, List.length_map, List.length_take]; omega)
    have hbs : bs = bs.take i ++ [bs[i]] := by
      have := List.take_succ_eq_append_getElem h2
      rw [← this, List.take_of_length_le (by omega)]
    conv => rhs; rw [hbs]
    rw [List.map_append]
    exact hs.symm
theorem id_end {ids bs : List ByteArray} {S : ByteArray} (h : Hid (IdAt ids bs bs.length S)) (hl : bs.length = ids.length + 1) : idsB S.data.toList = ids := by
  obtain ⟨e1, e2, -, e4⟩ := h.out
  rw [List.take_of_length_le (Nat.le_refl _)] at e1
  rw [List.take_of_length_le (by omega)] at e2
  have e4 := e4 (by omega)
  have hk := ids_str (ids.map bl) (bs.map bl) (by rw [List.length_map, List.length_map]; exact hl) (fun b hb c hc => by
    obtain ⟨x, hx, rfl⟩ := List.mem_map.1 hb
    have := List.all_eq_true.1 (e1 x hx) c hc
    unfold n60 at this
    exact fun e => by rw [e] at this; exact absurd this (by decide)) (fun b hb => by
    obtain ⟨x, hx, rfl⟩ := List.mem_map.1 hb
    exact e2 x hx)
  unfold idsB
  have e4 : S.data.toList = idStr (ids.map bl) (bs.map bl) := e4
  rw [e4, hk, List.map_map]
  have : ((fun x : List UInt8 => (⟨x.toArray⟩ : ByteArray)) ∘ bl) = id := funext fun x => mk_of rfl
  rw [this, List.map_id]
theorem end_dec (c : UInt8) : endI c = (decide ((c.toNat : Int) ≤ 32) || (((c.toNat : Int) == 127) || (((c.toNat : Int) == 60) || ((c.toNat : Int) == 62)))) := by
  have h0 : ∀ n : Nat, n < 256 → endI (UInt8.ofNat n) = (decide (((UInt8.ofNat n).toNat : Int) ≤ 32) || ((((UInt8.ofNat n).toNat : Int) == 127) || ((((UInt8.ofNat n).toNat : Int) == 60) || (((UInt8.ofNat n).toNat : Int) == 62)))) := by decide +kernel
  have := h0 c.toNat c.toNat_lt
  rwa [UInt8.ofNat_toNat] at this
set_option maxHeartbeats 8000000 in
set_option maxRecDepth 100000 in
theorem ids_of (va vb : Value) (ids bs : List ByteArray) (w : World) (h : Ra w) (ha : TxSees w va ids) (hb : TxSees w vb bs) : Calls Tryz.prog 8 #[va, vb] w (Truth w) := by
  have HS := Lib.hid (small_any w h)
  have HR := Lib.hid h
  have HTA := Lib.hid ha
  clear h
  obtain ⟨pa, ca, rfl, hca, hA⟩ := ha
  obtain ⟨pb, cb, rfl, hcb, hB⟩ := hb
  by_cases a1 : ids.length ≤ 20
  · have q1 : decide ((20 : Int) < (ids.length : Int)) = false := decide_eq_false (by omega)
    have p1 : decide (20 < ids.length) = false := decide_eq_false (by omega)
    have p1' : decide ((ids.length : Int) > 20) = false := decide_eq_false (by omega)
    by_cases a2 : bs.length = ids.length + 1
    · have q2 : ((bs.length : Int) != (ids.length : Int) + 1) = false := by rw [bne_eq_false_iff_eq]; omega
      have HA := Lib.hid hA
      have HB := Lib.hid hB
      have HL := Lib.hid a2
      have l1 : ids.length < bs.length := by omega
      have l2 : bs.length ≤ 21 := by omega
      have tb := Below.refl w.heap.size w
      have h0 := Lib.hid (id_zero ids bs)
      clear hA hB a2
      go_enter Tryz.func8, Tryz.ntmps8
      go_wp2_with (go_at_call 10; (with_reducible refine HS.out.mono ?_); rintro e w1 ⟨rfl, hb1⟩; have tb := tb.trans hb1)
      go_loopg [6, 7] (bs.length + 1) (fun g sv iv wr => ∃ (i : Nat) (S : ByteArray), sv = .string S ∧ iv = .int .i64 i ∧ i + g = bs.length + 1 ∧ i ≤ bs.length ∧ w1 = wr ∧ S.size ≤ i * 600 ∧ Hid (IdAt ids bs i S))
      case atStart => exact ⟨0, ⟨#[]⟩, by first | rfl | trivial, by first | rfl | trivial, by omega, by omega, rfl, by decide, h0⟩
      case round =>
        clear h0
        obtain ⟨i, S, rfl, rfl, hig, hi, rfl, hSz, hrel⟩ := hrel
        by_cases hlt : i < bs.length
        · rcases HB.out with rfl | ⟨gb, ob, rfl, hB⟩
          · simp at hlt
          · have c2 := cell_later tb (hB i hlt)
            have z0 : (0 : Int) ≤ (i : Int) := by omega
            have z2 : (i : Int) < (bs.length : Int) := by omega
            have hst1 := fun (h1 : i < ids.length) hb2 hi2 y1 y2 => id_step hrel HL.out h1 hlt hb2 hi2 y1 y2
            have hst2 := fun (h1 : i = ids.length) hb2 => id_last hrel HL.out h1 hlt hb2
            generalize bs[i] = b at *
            by_cases b1 : b.size ≤ 300
            · have r1 : decide ((300 : Int) < (b.size : Int)) = false := decide_eq_false (by omega)
              have r1' : decide ((b.size : Int) > 300) = false := decide_eq_false (by omega)
              have HST1 := Lib.hid hst1
              have HST2 := Lib.hid hst2
              clear hst1 hst2 hrel
              have hk0 : Hid ((tl b 0).all n60 = b.data.toList.all n60) := by show _ = _; rw [tl_zero]
              go_wp2
              go_loopg [8] b.size (fun g kv wy => ∃ k : Nat, kv = .int .i64 k ∧ k + g = b.size ∧ w1 = wy ∧ Hid ((tl b k).all n60 = b.data.toList.all n60))
              case atStart => exact ⟨0, by first | rfl | trivial, by omega, rfl, hk0⟩
              case round =>
                clear hk0
                obtain ⟨k, rfl, hkg, rfl, hkr⟩ := hrel
                by_cases hkl : k < b.size
                · obtain ⟨s1, s2⟩ := all_at hkl hkr.out
                  by_cases hc : b[k] = 60
                  · have y1 : ((b[k].toNat : Int) == 60) = true := by rw [hc]; rfl
                    clear s1 s2 hkr hc
                    go_wp2
                    go_ret
                    exact ⟨rfl, tb⟩
                  · have y1 : ((b[k].toNat : Int) == 60) = false := beq_eq_false_iff_ne.2 (fun e => hc (UInt8.toNat_inj.1 (by show _ = 60; omega)))
                    have hd := Lib.hid (s1 (by unfold n60; rw [beq_eq_false_iff_ne.2 hc]; rfl))
                    clear s1 s2 hkr hc
                    go_wp2
                    go_roundg (b.size - (k + 1))
                    case rel => exact ⟨k + 1, by go_num, by omega, rfl, hd⟩
                    case measure => omega
                · have hall : (bl b).all n60 = true := by
                    have e := hkr.out
                    rw [tl_end b k (by omega)] at e
                    exact e.symm
                  clear hkr
                  have n1 : (S ++ b : ByteArray).size = S.size + b.size := app_sizeI _ _
                  by_cases hil : i = ids.length
                  · have y1 : ((i : Int) == (ids.length : Int)) = true := beq_iff_eq.2 (by omega)
                    have hd := HST2.out hil hall
                    clear hall hil
                    go_wp2
                    go_roundg (bs.length - i)
                    case rel => exact ⟨i + 1, S ++ b, by first | rfl | trivial, by go_num, by omega, by omega, rfl, by rw [n1]; omega, hd⟩
                    case measure => omega
                  · have y1 : ((i : Int) == (ids.length : Int)) = false := beq_eq_false_iff_ne.2 (by omega)
                    have hil2 : i < ids.length := by have := HL.out; omega
                    rcases HA.out with rfl | ⟨ga, oa, rfl, hA⟩
                    · simp at hil2
                    · have c1 := cell_later tb (hA i hil2)
                      have z1 : (i : Int) < (ids.length : Int) := by omega
                      have hst := HST1.out hil2 hall
                      generalize ids[i] = x at *
                      have hxl : x.data.toList.length = x.size := rfl
                      by_cases x1 : 1 ≤ x.size
                      · have y2 : decide ((x.size : Int) < 1) = false := decide_eq_false (by omega)
                        have y2' : decide (x.size < 1) = false := decide_eq_false (by omega)
                        by_cases x2 : x.size ≤ 250
                        · have y3 : decide ((250 : Int) < (x.size : Int)) = false := decide_eq_false (by omega)
                          have y3' : decide ((x.size : Int) > 250) = false := decide_eq_false (by omega)
                          have HST := Lib.hid (fun h => hst h x1 x2)
                          clear hst HST1 HST2 hall hil
                          have hk0 : Hid ((tl x 0).all okI = x.data.toList.all okI) := by show _ = _; rw [tl_zero]
                          go_wp2
                          go_loopg [9, 10] x.size (fun g kv cv wy => ∃ k : Nat, kv = .int .i64 k ∧ k + g = x.size ∧ w1 = wy ∧ Hid ((tl x k).all okI = x.data.toList.all okI))
                          case atStart => exact ⟨0, by first | rfl | trivial, by omega, rfl, hk0⟩
                          case round =>
                            clear hk0
                            obtain ⟨q, rfl, hqg, rfl, hqr⟩ := hrel
                            by_cases hql : q < x.size
                            · obtain ⟨s1, s2⟩ := all_at hql hqr.out
                              have hed := end_dec x[q]
                              have s1 : endI x[q] = false → _ := fun e => s1 (by unfold okI; rw [e]; rfl)
                              generalize endI x[q] = eb at *
                              clear s2 hqr
                              cases d1 : decide ((x[q].toNat : Int) ≤ 32) with
                              | true =>
                                clear s1 hed
                                go_wp2
                                go_ret
                                exact ⟨rfl, tb⟩
                              | false =>
                                cases d2 : ((x[q].toNat : Int) == 127) with
                                | true =>
                                  clear s1 hed
                                  go_wp2
                                  go_ret
                                  exact ⟨rfl, tb⟩
                                | false =>
                                  cases d3 : ((x[q].toNat : Int) == 60) with
                                  | true =>
                                    clear s1 hed
                                    go_wp2
                                    go_ret
                                    exact ⟨rfl, tb⟩
                                  | false =>
                                    cases d4 : ((x[q].toNat : Int) == 62) with
                                    | true =>
                                      clear s1 hed
                                      go_wp2
                                      go_ret
                                      exact ⟨rfl, tb⟩
                                    | false =>
                                      rw [d1, d2, d3, d4] at hed
                                      have hd := Lib.hid (s1 hed)
                                      clear s1 hed
                                      go_wp2
                                      go_roundg (x.size - (q + 1))
                                      case rel => exact ⟨q + 1, by go_num, by omega, rfl, hd⟩
                                      case measure => omega
                            · have hok : (bl x).all okI = true := by
                                have e := hqr.out
                                rw [tl_end x q (by omega)] at e
                                exact e.symm
                              have hd := HST.out hok
                              clear hqr hok
                              have n2 : (S ++ b ++ ⟨#[60]⟩ ++ x ++ ⟨#[62]⟩ : ByteArray).size = S.size + b.size + 1 + x.size + 1 := by rw [app_sizeI, app_sizeI, app_sizeI, app_sizeI]; rfl
                              go_wp2
                              go_roundg (bs.length - i)
                              case rel => exact ⟨i + 1, _, by first | rfl | trivial, by go_num, by omega, by omega, rfl, by rw [n2]; omega, hd⟩
                              case measure => omega
                        · have y3 : decide ((250 : Int) < (x.size : Int)) = true := decide_eq_true (by omega)
                          have y3' : decide ((x.size : Int) > 250) = true := decide_eq_true (by omega)
                          clear hst HST1 HST2 hall
                          go_wp2
                          go_ret
                          exact ⟨rfl, tb⟩
                      · have y2 : decide ((x.size : Int) < 1) = true := decide_eq_true (by omega)
                        have y2' : decide (x.size < 1) = true := decide_eq_true (by omega)
                        clear hst HST1 HST2 hall
                        go_wp2
                        go_ret
                        exact ⟨rfl, tb⟩
            · have r1 : decide ((300 : Int) < (b.size : Int)) = true := decide_eq_true (by omega)
              have r1' : decide ((b.size : Int) > 300) = true := decide_eq_true (by omega)
              clear hst1 hst2 hrel
              go_wp2
              go_ret
              exact ⟨rfl, tb⟩
        · obtain rfl : i = bs.length := by omega
          have hfin := id_end hrel HL.out
          have hS9 : S.size ≤ 3000000 := by omega
          obtain ⟨m, hm⟩ := HR.out.later tb
          have hI := ids_any S w1 m hS9 hm
          rw [hfin] at hI
          have HI := Lib.hid hI
          have HT2 := Lib.hid (HTA.out.later tb)
          have la : ids.length ≤ 1000000 := by omega
          clear hI hrel hfin hm
          go_wp2_with (first
            | (go_at_call 15; (with_reducible refine HI.out.mono ?_); rintro e w2 ⟨v2, rfl, hown2, hb2⟩; have tb := tb.trans (hb2.mono tb.size))
            | (go_at_call 14; (with_reducible refine (sameT_refl _ _ ids _ (TxSees.of_owns hown2) (HT2.out.later hb2) la).mono ?_); rintro e w3 ⟨rfl, hb3⟩; have tb := tb.trans (hb3.mono tb.size)))
          go_ret
          exact ⟨rfl, tb⟩
    · have q2 : ((bs.length : Int) != (ids.length : Int) + 1) = true := by rw [bne_iff_ne]; omega
      clear hA hB a2
      go_enter Tryz.func8, Tryz.ntmps8
      go_wp2_with (go_at_call 10; (with_reducible refine HS.out.mono ?_); rintro e w1 ⟨rfl, hb1⟩)
      go_ret
      exact ⟨rfl, hb1⟩
  · have q1 : decide ((20 : Int) < (ids.length : Int)) = true := decide_eq_true (by omega)
    have p1 : decide (20 < ids.length) = true := decide_eq_true (by omega)
    have p1' : decide ((ids.length : Int) > 20) = true := decide_eq_true (by omega)
    clear hA hB
    go_enter Tryz.func8, Tryz.ntmps8
    go_wp2_with (go_at_call 10; (with_reducible refine HS.out.mono ?_); rintro e w1 ⟨rfl, hb1⟩)
    go_ret
    exact ⟨rfl, hb1⟩
end Go.Proofs.YtilccofdphohiaaGreatDoor
