/- Walks: chapter 11's laws: AddrBack. -/
import Derived.Test.YtilccofdphohiaaGreatDoorLawF
namespace Go.Proofs.YtilccofdphohiaaGreatDoor
open Go.RowKit Pk Ad Tk

theorem joinA_le (b : Nat) : ∀ L : List (List UInt8), (∀ x ∈ L, x.length ≤ b) → (joinA L).length ≤ (b + 2) * L.length
  | [], _ => Nat.zero_le _
  | [x], h => by
    have := h x (List.mem_cons_self ..)
    rw [joinA]
    simp; omega
  | x :: y :: r, h => by
    have ih := joinA_le b (y :: r) (fun z hz => h z (List.mem_cons_of_mem _ hz))
    have := h x (List.mem_cons_self ..)
    rw [joinA, List.length_append, List.length_cons, List.length_cons]
    have e : (x :: y :: r).length = (y :: r).length + 1 := rfl
    rw [e, Nat.mul_succ]
    omega
theorem lst_len {ys : List AdB} (h : ys.length ≤ 20) (hz : ∀ a ∈ ys, a.name.size ≤ 300 ∧ a.loc.size ≤ 300 ∧ a.dom.size ≤ 300) : (writeLst (ys.map AdB.lst)).length ≤ 100000 := by
  have := joinA_le 2000 ((ys.map AdB.lst).map writeA) (fun x hx => by
    rw [List.map_map] at hx
    obtain ⟨a, ha, rfl⟩ := List.mem_map.1 hx
    obtain ⟨n1, n2, n3⟩ := hz a ha
    have := writeA_len a.lst
    have l1 : a.lst.name.length = a.name.size := rfl
    have l2 : a.lst.loc.length = a.loc.size := rfl
    have l3 : a.lst.dom.length = a.dom.size := rfl
    show (writeA a.lst).length ≤ _
    omega)
  rw [List.length_map, List.length_map] at this
  unfold writeLst
  have h2 : 2002 * ys.length ≤ 2002 * 20 := Nat.mul_le_mul_left _ h
  omega
theorem write_ra (v : Value) (ys : List AdB) (w : World) (hr : Ra w) (hv : AdSees w v ys) (hn : ys.length ≤ 20) (hs : ∀ a ∈ ys, a.name.size ≤ 300 ∧ a.loc.size ≤ 300 ∧ a.dom.size ≤ 300) :
    Calls Tryz.prog 22 #[v] w (fun e w' => e = .returned (.string ⟨(writeLst (ys.map AdB.lst)).toArray⟩) ∧ Below w.heap.size w w') := by
  obtain ⟨m, hm⟩ := hr
  exact write_any v ys w m hm hv (by omega) (fun a ha => by obtain ⟨h1, h2, h3⟩ := hs a ha; exact ⟨by omega, by omega, by omega⟩)
theorem right_ra (nm lo dm : ByteArray) (w : World) (hr : Ra w) (h1 : nm.size ≤ 300) (h2 : lo.size ≤ 300) (h3 : dm.size ≤ 300) :
    Calls Tryz.prog 18 #[.agg #[.string nm, .string lo, .string dm]] w fun e w' => e = .returned (.bool (rightA ⟨nm.data.toList, lo.data.toList, dm.data.toList⟩)) ∧ Below w.heap.size w w' := by
  obtain ⟨m, hm⟩ := hr
  exact right_any nm lo dm w m hm (by omega) (by omega) (by omega)
theorem all_lst {ys : List AdB} (h : Hid ((ys.drop ys.length).all (fun a => rightA a.lst) = ys.all fun a => rightA a.lst)) : parseA (writeLst (ys.map AdB.lst)) = (ys.map AdB.lst, true) := by
  have e := h.out
  rw [List.drop_length] at e
  refine back_adr _ (fun a ha => ?_)
  obtain ⟨x, hx, rfl⟩ := List.mem_map.1 ha
  exact List.all_eq_true.1 e.symm x hx
set_option maxHeartbeats 4000000 in
set_option maxRecDepth 100000 in
theorem back_of (v : Value) (ys : List AdB) (w : World) (h : Ra w) (hv : AdSees w v ys) (hl : ys.length ≤ 9223372036854775807) : Calls Tryz.prog 5 #[v] w (Truth w) := by
  have HS := Lib.hid (small_any w h)
  have HR := Lib.hid h
  have HV := Lib.hid hv
  have hF := fun w' (hb : Below w.heap.size w w') => few_any v ys w' (hv.later hb) hl
  clear h
  obtain ⟨p, c, rfl, hc, hcs⟩ := hv
  have HC := Lib.hid hcs
  have tb := Below.refl w.heap.size w
  clear hcs
  cases hfe : fewA ys with
  | false =>
    rw [hfe] at hF
    have HF := Lib.hid hF
    clear hF hfe
    go_enter Tryz.func5, Tryz.ntmps5
    go_wp2_with (first
      | (go_at_call 10; (with_reducible refine HS.out.mono ?_); rintro e w1 ⟨rfl, hb1⟩; have tb := tb.trans hb1)
      | (go_at_call 17; (with_reducible refine (HF.out _ tb).mono ?_); rintro e w2 ⟨rfl, hb2⟩; have tb := tb.trans (hb2.mono tb.size)))
    go_ret
    exact ⟨rfl, tb⟩
  | true =>
    obtain ⟨hn, hz⟩ := few_size hfe
    rw [hfe] at hF
    have HF := Lib.hid hF
    have HZ := Lib.hid hz
    have hst : Hid ((ys.drop 0).all (fun a => rightA a.lst) = ys.all fun a => rightA a.lst) := rfl
    clear hF hfe hz
    go_enter Tryz.func5, Tryz.ntmps5
    go_wp2_with (first
      | (go_at_call 10; (with_reducible refine HS.out.mono ?_); rintro e w1 ⟨rfl, hb1⟩; have tb := tb.trans hb1)
      | (go_at_call 17; (with_reducible refine (HF.out _ tb).mono ?_); rintro e w2 ⟨rfl, hb2⟩; have tb := tb.trans (hb2.mono tb.size)))
    go_loopg [5] ys.length (fun g iv wr => ∃ k : Nat, k + g = ys.length ∧ iv = .int .i64 k ∧ Below w.heap.size w wr ∧ Hid ((ys.drop k).all (fun a => rightA a.lst) = ys.all fun a => rightA a.lst))
    case atStart => exact ⟨0, by omega, by first | rfl | trivial, tb, hst⟩
    case round =>
      clear hst tb
      obtain ⟨k, hkg, rfl, hbel, hrel⟩ := hrel
      by_cases hlt : k < ys.length
      · obtain ⟨gg, o, rfl, hcell⟩ : ∃ g o, p = some ⟨g, o, none⟩ ∧ ∀ j (hj : j < ys.length), w.cell? ⟨g, o + j * 3, none⟩ = some (.string ys[j].name) ∧ w.cell? ⟨g, o + j * 3 + 1, none⟩ = some (.string ys[j].loc) ∧ w.cell? ⟨g, o + j * 3 + 2, none⟩ = some (.string ys[j].dom) := by
          rcases HC.out with h | h
          · rw [h] at hlt; simp at hlt
          · exact h
        obtain ⟨c0, c1, c2⟩ := hcell k hlt
        have c0 := laterW (hbel.mono (Nat.le_refl _)) c0
        have c1 := laterW (hbel.mono (Nat.le_refl _)) c1
        have c2 := laterW (hbel.mono (Nat.le_refl _)) c2
        obtain ⟨s1, -⟩ := all_stepF hrel hlt
        obtain ⟨n1, n2, n3⟩ := HZ.out ys[k] (List.getElem_mem hlt)
        have z0 : (0 : Int) ≤ (k : Int) := by omega
        have z1 : (k : Int) < (ys.length : Int) := by omega
        generalize ys[k] = a at *
        obtain ⟨nm, lo, dm⟩ := a
        have c0 : wr.cell? ⟨gg, o + k * 3, none⟩ = some (.string nm) := c0
        have c1 : wr.cell? ⟨gg, o + k * 3 + 1, none⟩ = some (.string lo) := c1
        have c2 : wr.cell? ⟨gg, o + k * 3 + 2, none⟩ = some (.string dm) := c2
        have s1 : rightA ⟨nm.data.toList, lo.data.toList, dm.data.toList⟩ = true → _ := s1
        have hRt := fun W hr => right_ra nm lo dm W hr n1 n2 n3
        generalize rightA ⟨nm.data.toList, lo.data.toList, dm.data.toList⟩ = rr at *
        have HRt := Lib.hid hRt
        clear hcell hrel hRt n1 n2 n3
        cases rr with
        | true =>
          have hd := s1 rfl
          clear s1
          go_wp2_with (go_at_call 18; (with_reducible refine (HRt.out _ (HR.out.later hbel)).mono ?_); rintro e w3 ⟨rfl, hb3⟩; have tb := hbel.trans (hb3.mono hbel.size))
          go_roundg (ys.length - (k + 1))
          case rel => exact ⟨k + 1, by omega, by go_num, tb, hd⟩
          case measure => omega
        | false =>
          clear s1
          go_wp2_with (go_at_call 18; (with_reducible refine (HRt.out _ (HR.out.later hbel)).mono ?_); rintro e w3 ⟨rfl, hb3⟩; have tb := hbel.trans (hb3.mono hbel.size))
          go_ret
          exact ⟨rfl, tb⟩
      · obtain rfl : k = ys.length := by omega
        have hp := all_lst hrel
        have hle := lst_len hn HZ.out
        have hW := fun W hr hs => write_ra (.slice p ys.length c) ys W hr hs hn HZ.out
        obtain ⟨S, hS1, hS2, hS3⟩ := arrE (writeLst (ys.map AdB.lst))
        rw [← hS2] at hp
        rw [← hS1] at hW
        have hP := fun W => (parse_any S W (by omega)).mono fun e w' h => pars_to h hp
        have HW := Lib.hid hW
        have HP := Lib.hid hP
        have la : ys.length ≤ 2000000 := by omega
        clear hW hP hp hle hS1 hS2 hS3 hrel
        go_wp2_with (first
          | (go_at_call 22; (with_reducible refine (HW.out _ (HR.out.later hbel) (HV.out.later hbel)).mono ?_); rintro e w3 ⟨rfl, hb3⟩; have tb := hbel.trans (hb3.mono hbel.size))
          | (go_at_call 11; (with_reducible refine (HP.out _).mono ?_); rintro e w4 ⟨v4, rfl, -, hs4, hb4⟩; have tb := tb.trans (hb4.mono tb.size))
          | (go_at_call 13; (with_reducible refine (sameA_refl _ _ ys _ (HV.out.later tb) hs4 la).mono ?_); rintro e w5 ⟨rfl, hb5⟩; have tb := tb.trans (hb5.mono tb.size)))
        go_ret
        exact ⟨rfl, tb⟩
end Go.Proofs.YtilccofdphohiaaGreatDoor
