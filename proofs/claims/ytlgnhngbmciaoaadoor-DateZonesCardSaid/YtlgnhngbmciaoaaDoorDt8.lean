/- Walks: dates: zone; the closure of Read. -/
import Derived.Test.YtlgnhngbmciaoaaDoorDt7
import Derived.Shelf.GgClosure.GivesRunes
namespace Go.Proofs.YtlgnhngbmciaoaaDoor
open Go.RowKit Pk Dt

theorem head_is (s : ByteArray) (h : 0 < s.size) : s.data.toList.head? = some s[0] := by
  have e := tl_cons s 0 h
  rw [tl_zero] at e
  rw [e]; rfl
theorem five (s : ByteArray) (h5 : s.size = 5) : ((s.data.toList.drop 1).take 2) = (s.extract 1 3).data.toList ∧ s.data.toList.drop 3 = (s.extract 3 s.size).data.toList := by
  refine ⟨?_, ?_⟩
  · rw [ext_eq]
  · rw [ext_from]
set_option maxHeartbeats 4000000 in
set_option maxRecDepth 100000 in
theorem zone_any (s : ByteArray) (w : World) (hs : s.size ≤ 100000000) : Calls Tryd.prog 27 #[.string s] w (PairD (zoneL s.data.toList) w) := by
  by_cases h5 : s.size = 5
  · have h0 : 0 < s.size := by omega
    have hh := head_is s h0
    by_cases hsg : s[0] = 43 ∨ s[0] = 45
    · obtain ⟨f1, f2⟩ := five s h5
      have hz : zoneL s.data.toList = (if s[0] = 45 then -(60 * (digL 2 2 (s.extract 1 3).data.toList).1 + (digL 2 2 (s.extract 3 s.size).data.toList).1) else 60 * (digL 2 2 (s.extract 1 3).data.toList).1 + (digL 2 2 (s.extract 3 s.size).data.toList).1,
          (digL 2 2 (s.extract 1 3).data.toList).2 && ((digL 2 2 (s.extract 3 s.size).data.toList).2 && (decide ((digL 2 2 (s.extract 1 3).data.toList).1 < 24) && decide ((digL 2 2 (s.extract 3 s.size).data.toList).1 < 60)))) := by
        unfold zoneL
        rw [dataL, hh, f1, f2]
        rw [if_pos ⟨h5, by rcases hsg with e | e <;> rw [e] <;> simp⟩]
        congr 1
        by_cases e : s[0] = 45
        · rw [if_pos (by rw [e]), if_pos e]
        · rw [if_neg (fun h => e (Option.some.inj h)), if_neg e]
      rw [hz]
      clear hz f1 f2 hh
      have hA := fun w => digits22 (s.extract 1 3) w
      have hB := fun w => digits22 (s.extract 3 s.size) w
      obtain ⟨a1, a2⟩ := nbd_le (digL_nbd 2 2 (s.extract 1 3).data.toList) (by omega)
      obtain ⟨b1, b2⟩ := nbd_le (digL_nbd 2 2 (s.extract 3 s.size).data.toList) (by omega)
      generalize digL 2 2 (s.extract 1 3).data.toList = x at *
      generalize digL 2 2 (s.extract 3 s.size).data.toList = y at *
      obtain ⟨h, o1⟩ := x
      obtain ⟨m, o2⟩ := y
      unfold PairD at *
      simp only at *
      have HA := Lib.hid hA
      have HB := Lib.hid hB
      have tb := Below.refl w.heap.size w
      have q0 : ((s.size : Int) == 5) = true := beq_iff_eq.2 (by omega)
      have H5 := Lib.hid h5
      have h5a : 5 ≤ s.size := by omega
      have h5b : s.size ≤ 5 := by omega
      clear hA hB h5
      rcases hsg with e | e
      · have q1 : ((s[0].toNat : Int) == 43) = true := by rw [e]; rfl
        have q2 : ((s[0].toNat : Int) == 45) = false := by rw [e]; rfl
        have HR : Hid ((if s[0] = 45 then -(60 * h + m) else 60 * h + m) = 60 * h + m) := if_neg (by rw [e]; decide)
        clear e
        generalize (if s[0] = 45 then -(60 * h + m) else 60 * h + m) = N at HR ⊢
        cases o1 with
        | false =>
          go_enter Tryd.func27, Tryd.ntmps27
          go_wp2_with (first | (go_at_call 23; (with_reducible refine (HA.out _).mono ?_); rintro e w1 ⟨rfl, hb1⟩; have tb := tb.trans (hb1.mono tb.size)) | (go_at_call 23; (with_reducible refine (HB.out _).mono ?_); rintro e w1 ⟨rfl, hb1⟩; have tb := tb.trans (hb1.mono tb.size)))
          go_ret2
          rw [HR.out]
          exact ⟨by first | rfl | (simp; done) | (simp; omega), tb⟩
        | true =>
          cases o2 with
          | false =>
            go_enter Tryd.func27, Tryd.ntmps27
            go_wp2_with (first | (go_at_call 23; (with_reducible refine (HA.out _).mono ?_); rintro e w1 ⟨rfl, hb1⟩; have tb := tb.trans (hb1.mono tb.size)) | (go_at_call 23; (with_reducible refine (HB.out _).mono ?_); rintro e w1 ⟨rfl, hb1⟩; have tb := tb.trans (hb1.mono tb.size)))
            go_ret2
            rw [HR.out]
            exact ⟨by first | rfl | (simp; done) | (simp; omega), tb⟩
          | true =>
            by_cases g1 : h < 24
            · by_cases g2 : m < 60
              · go_enter Tryd.func27, Tryd.ntmps27
                go_wp2_with (first | (go_at_call 23; (with_reducible refine (HA.out _).mono ?_); rintro e w1 ⟨rfl, hb1⟩; have tb := tb.trans (hb1.mono tb.size)) | (go_at_call 23; (with_reducible refine (HB.out _).mono ?_); rintro e w1 ⟨rfl, hb1⟩; have tb := tb.trans (hb1.mono tb.size)))
                go_ret2
                rw [HR.out]
                exact ⟨by first | rfl | (simp; done) | (simp; omega), tb⟩
              · go_enter Tryd.func27, Tryd.ntmps27
                go_wp2_with (first | (go_at_call 23; (with_reducible refine (HA.out _).mono ?_); rintro e w1 ⟨rfl, hb1⟩; have tb := tb.trans (hb1.mono tb.size)) | (go_at_call 23; (with_reducible refine (HB.out _).mono ?_); rintro e w1 ⟨rfl, hb1⟩; have tb := tb.trans (hb1.mono tb.size)))
                go_ret2
                rw [HR.out]
                exact ⟨by first | rfl | (simp; done) | (simp; omega), tb⟩
            · go_enter Tryd.func27, Tryd.ntmps27
              go_wp2_with (first | (go_at_call 23; (with_reducible refine (HA.out _).mono ?_); rintro e w1 ⟨rfl, hb1⟩; have tb := tb.trans (hb1.mono tb.size)) | (go_at_call 23; (with_reducible refine (HB.out _).mono ?_); rintro e w1 ⟨rfl, hb1⟩; have tb := tb.trans (hb1.mono tb.size)))
              go_ret2
              rw [HR.out]
              exact ⟨by first | rfl | (simp; done) | (simp; omega), tb⟩
      · have q1 : ((s[0].toNat : Int) == 43) = false := by rw [e]; rfl
        have q2 : ((s[0].toNat : Int) == 45) = true := by rw [e]; rfl
        have HR : Hid ((if s[0] = 45 then -(60 * h + m) else 60 * h + m) = -(60 * h + m)) := if_pos e
        clear e
        generalize (if s[0] = 45 then -(60 * h + m) else 60 * h + m) = N at HR ⊢
        cases o1 with
        | false =>
          go_enter Tryd.func27, Tryd.ntmps27
          go_wp2_with (first | (go_at_call 23; (with_reducible refine (HA.out _).mono ?_); rintro e w1 ⟨rfl, hb1⟩; have tb := tb.trans (hb1.mono tb.size)) | (go_at_call 23; (with_reducible refine (HB.out _).mono ?_); rintro e w1 ⟨rfl, hb1⟩; have tb := tb.trans (hb1.mono tb.size)))
          go_ret2
          rw [HR.out]
          exact ⟨by first | rfl | (simp; done) | (simp; omega), tb⟩
        | true =>
          cases o2 with
          | false =>
            go_enter Tryd.func27, Tryd.ntmps27
            go_wp2_with (first | (go_at_call 23; (with_reducible refine (HA.out _).mono ?_); rintro e w1 ⟨rfl, hb1⟩; have tb := tb.trans (hb1.mono tb.size)) | (go_at_call 23; (with_reducible refine (HB.out _).mono ?_); rintro e w1 ⟨rfl, hb1⟩; have tb := tb.trans (hb1.mono tb.size)))
            go_ret2
            rw [HR.out]
            exact ⟨by first | rfl | (simp; done) | (simp; omega), tb⟩
          | true =>
            by_cases g1 : h < 24
            · by_cases g2 : m < 60
              · go_enter Tryd.func27, Tryd.ntmps27
                go_wp2_with (first | (go_at_call 23; (with_reducible refine (HA.out _).mono ?_); rintro e w1 ⟨rfl, hb1⟩; have tb := tb.trans (hb1.mono tb.size)) | (go_at_call 23; (with_reducible refine (HB.out _).mono ?_); rintro e w1 ⟨rfl, hb1⟩; have tb := tb.trans (hb1.mono tb.size)))
                go_ret2
                rw [HR.out]
                exact ⟨by first | rfl | (simp; done) | (simp; omega), tb⟩
              · go_enter Tryd.func27, Tryd.ntmps27
                go_wp2_with (first | (go_at_call 23; (with_reducible refine (HA.out _).mono ?_); rintro e w1 ⟨rfl, hb1⟩; have tb := tb.trans (hb1.mono tb.size)) | (go_at_call 23; (with_reducible refine (HB.out _).mono ?_); rintro e w1 ⟨rfl, hb1⟩; have tb := tb.trans (hb1.mono tb.size)))
                go_ret2
                rw [HR.out]
                exact ⟨by first | rfl | (simp; done) | (simp; omega), tb⟩
            · go_enter Tryd.func27, Tryd.ntmps27
              go_wp2_with (first | (go_at_call 23; (with_reducible refine (HA.out _).mono ?_); rintro e w1 ⟨rfl, hb1⟩; have tb := tb.trans (hb1.mono tb.size)) | (go_at_call 23; (with_reducible refine (HB.out _).mono ?_); rintro e w1 ⟨rfl, hb1⟩; have tb := tb.trans (hb1.mono tb.size)))
              go_ret2
              rw [HR.out]
              exact ⟨by first | rfl | (simp; done) | (simp; omega), tb⟩
    · have hz : zoneL s.data.toList = wordZ s.data.toList := by
        unfold zoneL wordZ
        rw [hh]
        rw [if_neg (fun ⟨_, h⟩ => hsg (by rcases h with h | h; exact .inl (Option.some.inj h); exact .inr (Option.some.inj h)))]
      rw [hz]
      refine zoneW_any s w hs (.inr ⟨h5, fun h => ⟨?_, ?_⟩⟩)
      · exact beq_eq_false_iff_ne.2 (fun e => hsg (.inl (UInt8.toNat_inj.1 (by show _ = 43; omega))))
      · exact beq_eq_false_iff_ne.2 (fun e => hsg (.inr (UInt8.toNat_inj.1 (by show _ = 45; omega))))
  · have hz : zoneL s.data.toList = wordZ s.data.toList := by
      unfold zoneL wordZ
      rw [if_neg (fun ⟨h, _⟩ => h5 h)]
    rw [hz]
    exact zoneW_any s w hs (.inl (beq_eq_false_iff_ne.2 (by omega)))
/-- the blank bytes -/
theorem blk_pred (w : World) : PredAtRunes Tryd.prog 21 #[] blkR w := by
  intro W x hx hb
  unfold FnGives
  have e : blkR x = ((((x : Int) == 32)) || (((x : Int) == 9) || (((x : Int) == 13) || ((x : Int) == 10)))) := by
    have : ∀ n : Nat, ((x : Int) == (n : Int)) = (x == n) := fun n => by
      by_cases h : x = n
      · rw [h]; simp
      · rw [beq_eq_false_iff_ne.2 h, beq_eq_false_iff_ne.2 (by omega)]
    unfold blkR
    rw [← this 32, ← this 9, ← this 13, ← this 10]; rfl
  rw [e]
  cases h1 : ((x : Int) == 32) with
  | true =>
    go_enter Tryd.func21, Tryd.ntmps21
    go_wp2
    go_ret
    exact ⟨rfl, 0, rfl⟩
  | false =>
    cases h2 : ((x : Int) == 9) with
    | true =>
      go_enter Tryd.func21, Tryd.ntmps21
      go_wp2
      go_ret
      exact ⟨rfl, 0, rfl⟩
    | false =>
      cases h3 : ((x : Int) == 13) with
      | true =>
        go_enter Tryd.func21, Tryd.ntmps21
        go_wp2
        go_ret
        exact ⟨rfl, 0, rfl⟩
      | false =>
        cases h4 : ((x : Int) == 10) with
        | true =>
          go_enter Tryd.func21, Tryd.ntmps21
          go_wp2
          go_ret
          exact ⟨rfl, 0, rfl⟩
        | false =>
          go_enter Tryd.func21, Tryd.ntmps21
          go_wp2
          go_ret
          exact ⟨rfl, 0, rfl⟩
end Go.Proofs.YtlgnhngbmciaoaaDoor
