/- Walks: addr: Ids. -/
import Derived.Test.YtilccofdphohiaaGreatDoorAdPl
import Derived.Test.YtilccofdphohiaaGreatDoorAdW2
import Derived.Test.YtilccofdphohiaaGreatDoorFd4
namespace Go.Proofs.YtilccofdphohiaaGreatDoor
open Go.RowKit Pk Ad Fo

theorem id_pred (w : World) : PredAtRunes Tryz.prog 33 #[] endR w := by
  intro W x hx hb
  unfold FnGives
  have e : endR x = (decide ((x : Int) ≤ 32) || (((x : Int) == 127) || (((x : Int) == 60) || ((x : Int) == 62)))) := by
    have : ∀ n : Nat, ((x : Int) == (n : Int)) = (x == n) := fun n => by
      by_cases h : x = n
      · rw [h]; simp
      · rw [beq_eq_false_iff_ne.2 h, beq_eq_false_iff_ne.2 (by omega)]
    have h2 : decide ((x : Int) ≤ 32) = decide (x ≤ 32) := by
      by_cases h : x ≤ 32
      · rw [decide_eq_true h, decide_eq_true (by omega)]
      · rw [decide_eq_false h, decide_eq_false (by omega)]
    unfold endR
    rw [← this 127, ← this 60, ← this 62, h2, Bool.or_assoc, Bool.or_assoc]; rfl
  rw [e]
  cases h1 : decide ((x : Int) ≤ 32) with
  | true =>
    have h1' : decide (x ≤ 32) = true := decide_eq_true (by have := of_decide_eq_true h1; omega)
    go_enter Tryz.func33, Tryz.ntmps33
    go_wp2
    go_ret
    exact ⟨rfl, 0, rfl⟩
  | false =>
    have h1' : decide (x ≤ 32) = false := decide_eq_false (by have := of_decide_eq_false h1; omega)
    cases h2 : ((x : Int) == 127) with
    | true =>
      go_enter Tryz.func33, Tryz.ntmps33
      go_wp2
      go_ret
      exact ⟨rfl, 0, rfl⟩
    | false =>
      cases h3 : ((x : Int) == 60) with
      | true =>
        go_enter Tryz.func33, Tryz.ntmps33
        go_wp2
        go_ret
        exact ⟨rfl, 0, rfl⟩
      | false =>
        cases h4 : ((x : Int) == 62) with
        | true =>
          go_enter Tryz.func33, Tryz.ntmps33
          go_wp2
          go_ret
          exact ⟨rfl, 0, rfl⟩
        | false =>
          go_enter Tryz.func33, Tryz.ntmps33
          go_wp2
          go_ret
          exact ⟨rfl, 0, rfl⟩
theorem cut_nilA {sep : List UInt8} (h : sep ≠ []) : Lib.cut [] sep = ([], [], false) := by
  cases sep with
  | nil => exact absurd rfl h
  | cons a r => rfl
theorem cut_at60 (c : UInt8) (r : List UInt8) : Lib.cut (c :: r) [60] = if c = 60 then ([], r, true) else (c :: (Lib.cut r [60]).1, (Lib.cut r [60]).2.1, (Lib.cut r [60]).2.2) := by
  have hge := Lib.index_ge r [60]
  have hi : Lib.index (c :: r) [60] = if c = 60 then 0 else if Lib.index r [60] = -1 then -1 else Lib.index r [60] + 1 := by
    rw [Lib.index]
    by_cases h : c = 60
    · subst h
      simp [List.isPrefixOf]
    · have : (([60] : List UInt8).isPrefixOf (c :: r)) = false := by simp [List.isPrefixOf]; exact fun e => h e.symm
      rw [this, if_neg h]
      simp
  unfold Lib.cut
  rw [hi]
  by_cases h : c = 60
  · rw [if_pos h, if_pos h]; simp
  · rw [if_neg h, if_neg h]
    by_cases h2 : Lib.index r [60] = -1
    · rw [if_pos h2, h2]; simp
    · rw [if_neg h2, if_pos (by omega), if_pos (by omega)]
      have : (Lib.index r [60] + 1).toNat = (Lib.index r [60]).toNat + 1 := by omega
      rw [this]
      simp
theorem cut_ids : ∀ l : List UInt8, ((Lib.cut l [60]).2.2 = true → idsL l = idAt (Lib.cut l [60]).2.1 ++ idsL (Lib.cut l [60]).2.1 ∧ (Lib.cut l [60]).2.1.length < l.length) ∧ ((Lib.cut l [60]).2.2 = false → idsL l = [])
  | [] => by rw [cut_nilA (by decide)]; exact ⟨fun h => (Bool.noConfusion h), fun _ => rfl⟩
  | c :: r => by
    rw [cut_at60]
    by_cases h : c = 60
    · rw [if_pos h, idsL, if_pos h]
      exact ⟨fun _ => ⟨rfl, by simp⟩, fun h => (Bool.noConfusion h)⟩
    · rw [if_neg h, idsL, if_neg h]
      have ih := cut_ids r
      exact ⟨fun h => ⟨(ih.1 h).1, by rw [List.length_cons]; exact Nat.lt_succ_of_lt (ih.1 h).2⟩, ih.2⟩
def idsB (l : List UInt8) : List ByteArray := (idsL l).map fun x => ⟨x.toArray⟩
def StrsIs (X : List ByteArray) (w : World) (e : Ending) (w' : World) : Prop := ∃ v, e = .returned v ∧ ownsS w' w.heap.size 9 v X ∧ Below w.heap.size w w'
theorem ssA : StrSl Tryz.prog 28 9 where
  ht := Tryz.underlying28
  hi := info_parts (show (Tryz.prog.info? 9).map (fun i => (i.zero, i.size, i.bytes)) = some (some (.string ⟨#[]⟩), 1, 16) by kernel_rfl)
theorem drewN_belowA (w : World) (n : Nat) : Below w.heap.size w (w.drewN n) := ⟨rfl, rfl, rfl, Nat.le_refl _, fun _ _ => rfl⟩
theorem ownsS.drewN {w : World} {B : Nat} {e : TypeId} {v : Value} {l : List ByteArray} (h : ownsS w B e v l) (n : Nat) : ownsS (w.drewN n) B e v l := h
theorem mk_of {B : ByteArray} {l : List UInt8} (h : B.data.toList = l) : (⟨l.toArray⟩ : ByteArray) = B := by
  obtain ⟨⟨k⟩⟩ := B
  have h : k = l := h
  rw [h]
theorem id_idx (S : ByteArray) (w : World) : Calls Tryz.prog 32 #[.string S, .func (.func 33) #[] #[]] w fun e w' => e = .returned (.int .i64 (if S.data.toList.findIdx endI < S.size then ((S.data.toList.findIdx endI : Nat) : Int) else -1)) ∧ Below w.heap.size w w' := by
  have eg := enters_of Tryz.func33 (by kernel_rfl) rfl
  have := Tryz.strings_IndexFunc_runes 33 #[] eg endR S w (id_pred w)
  rwa [idx_id] at this
set_option maxHeartbeats 1000000 in
set_option maxRecDepth 100000 in
theorem ids_any (s : ByteArray) (w : World) (m : Int) (hs : s.size ≤ 3000000) (hm : w.cell? ⟨0, 0, none⟩ = some (.int .i64 m)) : Calls Tryz.prog 15 #[.string s] w (StrsIs (idsB s.data.toList) w) := by
  obtain ⟨X, hX⟩ : ∃ X, X = idsB s.data.toList := ⟨_, rfl⟩
  have hst : Hid ([] ++ idsB s.data.toList = X) := hX.symm
  rw [← hX]
  clear hX
  go_enter Tryz.func15, Tryz.ntmps15
  go_wp2
  go_loopw [0, 3] (fun sv ov wr => ∃ (S : ByteArray) (acc : List ByteArray), sv = .string S ∧ ownsS wr w.heap.size 9 ov acc ∧ Below w.heap.size w wr ∧ acc.length + S.size ≤ s.size ∧ Hid (acc ++ idsB S.data.toList = X)) (fun sv _ _ => match sv with | .string S => S.size | _ => 0)
  case atStart => exact ⟨s, [], rfl, ⟨by simp, .inl ⟨rfl, rfl⟩⟩, Below.refl _ _, by simp, hst⟩
  case round =>
    clear hst
    obtain ⟨S, acc, rfl, hown, hbel, hal, hrel⟩ := hrel
    have hsz := hbel.size
    have hmr := cell_later hbel hm
    obtain ⟨A, hA⟩ : ∃ A : ByteArray, A = ⟨(Lib.cut S.data.toList [60]).1.toArray⟩ := ⟨_, rfl⟩
    obtain ⟨R, hR, hRl, hRs⟩ := arrE (Lib.cut S.data.toList [60]).2.1
    obtain ⟨more, hmore⟩ : ∃ b, b = (Lib.cut S.data.toList [60]).2.2 := ⟨_, rfl⟩
    have hcut : Calls Tryz.prog 31 #[.string S, .string ⟨#[60]⟩] wr fun e w' => e = .returned (.tuple #[.string A, .string R, .bool more]) ∧ ∃ n, w' = wr.drewN n := by
      rw [hA, hR, hmore]
      exact Tryz.strings_Cut S ⟨#[60]⟩ m wr (by omega) hmr
    obtain ⟨g1, g2⟩ := cut_ids S.data.toList
    rw [← hmore, ← hRl] at g1
    rw [← hmore] at g2
    have HC := Lib.hid hcut
    clear hcut hA hR hRs hmr hmore hRl
    cases more with
    | false =>
      have e := hrel.out
      unfold idsB at e
      rw [g2 rfl, List.map_nil, List.append_nil] at e
      subst e
      clear g1 g2 hrel
      go_wp2_with (go_at_call 31; (with_reducible refine HC.out.mono ?_); rintro e w1 ⟨rfl, n, rfl⟩)
      go_ret
      exact ⟨_, rfl, hown, hbel.trans ((drewN_belowA wr n).mono hsz)⟩
    | true =>
      obtain ⟨g3, g4⟩ := g1 rfl
      have hRz : R.size < S.size := g4
      have hI := fun w => id_idx R w
      have hid : idAt R.data.toList = if 0 < R.data.toList.findIdx endI ∧ R.data.toList.findIdx endI ≤ 250 ∧ R.data.toList[R.data.toList.findIdx endI]? = some 62 then [R.data.toList.take (R.data.toList.findIdx endI)] else [] := rfl
      generalize R.data.toList.findIdx endI = q at *
      have hx := hrel.out
      unfold idsB at hx
      rw [g3, hid, List.map_append] at hx
      clear g1 g2 g3 g4 hid hrel
      by_cases hq : q < R.size
      · have hRq : R.data.toList[q]? = some R[q] := by
          rw [List.getElem?_eq_getElem (by show q < R.size; exact hq)]; rfl
        rw [hRq] at hx
        rw [if_pos hq] at hI
        have HI := Lib.hid hI
        clear hI hRq
        by_cases h0 : 0 < q
        · have z0 : decide ((0 : Int) < (q : Int)) = true := decide_eq_true (by omega)
          have z0' : decide (0 < q) = true := decide_eq_true h0
          by_cases h1 : q ≤ 250
          · have z1 : decide ((q : Int) ≤ 250) = true := decide_eq_true (by omega)
            have z1' : decide (q ≤ 250) = true := decide_eq_true h1
            by_cases h2 : R[q] = 62
            · have z2 : ((R[q].toNat : Int) == 62) = true := by rw [h2]; rfl
              rw [if_pos ⟨h0, h1, by rw [h2]⟩, ← List.append_assoc] at hx
              have hx2 : Hid ((acc ++ [R.extract 0 q]) ++ idsB R.data.toList = X) := by
                have e1 : (⟨(R.data.toList.take q).toArray⟩ : ByteArray) = R.extract 0 q := mk_of (by rw [ByteArray.data_extract]; simp)
                rw [← e1]; exact hx
              clear hx h2
              go_wp2_with (first
                | (go_at_call 31; (with_reducible refine HC.out.mono ?_); rintro e w1 ⟨rfl, n, rfl⟩; have hownd := ownsS.drewN hown n; have hbeld := hbel.trans ((drewN_belowA wr n).mono hsz))
                | (go_at_call 32; (with_reducible refine (HI.out _).mono ?_); rintro e w2 ⟨rfl, hb2⟩; have hown2 := ownsS.below hownd hb2 (Nat.le_refl _); have hbel2 := hbeld.trans (hb2.mono hbeld.size); have hz2 := hbel2.size)
                | (at_builtin; refine append_str _ rfl (.tmp 32) (.tmp 36) ssA rfl w.heap.size _ _ rfl (ownsS.alloc hown2 _) ⟨_, 0, none⟩ 1 1 [_] rfl rfl (cells_new _ _ _) (by first | omega | (simp; done) | (simp; omega)) (by first | omega | (simp; done) | (simp; omega)) ?_; intro v6 w6 hown6 hg6; have hb6 := Below_grownS (Below.alloc hbel2 hz2 _) (ownsS.alloc hown2 _) hg6 (by first | omega | (simp; done) | (simp; omega)); clear hg6))
              go_roundw
              case rel => exact ⟨R, _, rfl, hown6, hb6, by rw [List.length_append, List.length_singleton]; omega, hx2⟩
              case measure => exact hRz
            · have z2 : ((R[q].toNat : Int) == 62) = false := beq_eq_false_iff_ne.2 (fun e => h2 (UInt8.toNat_inj.1 (by show _ = 62; omega)))
              rw [if_neg (fun h => h2 (Option.some.inj h.2.2))] at hx
              have hx2 : Hid (acc ++ idsB R.data.toList = X) := hx
              clear hx
              go_wp2_with (first
                | (go_at_call 31; (with_reducible refine HC.out.mono ?_); rintro e w1 ⟨rfl, n, rfl⟩; have hownd := ownsS.drewN hown n; have hbeld := hbel.trans ((drewN_belowA wr n).mono hsz))
                | (go_at_call 32; (with_reducible refine (HI.out _).mono ?_); rintro e w2 ⟨rfl, hb2⟩; have hown2 := ownsS.below hownd hb2 (Nat.le_refl _); have hbel2 := hbeld.trans (hb2.mono hbeld.size); have hz2 := hbel2.size))
              go_roundw
              case rel => exact ⟨R, _, rfl, hown2, hbel2, by omega, hx2⟩
              case measure => exact hRz
          · have z1 : decide ((q : Int) ≤ 250) = false := decide_eq_false (by omega)
            have z1' : decide (q ≤ 250) = false := decide_eq_false h1
            rw [if_neg (fun h => h1 h.2.1)] at hx
            have hx2 : Hid (acc ++ idsB R.data.toList = X) := hx
            clear hx
            go_wp2_with (first
              | (go_at_call 31; (with_reducible refine HC.out.mono ?_); rintro e w1 ⟨rfl, n, rfl⟩; have hownd := ownsS.drewN hown n; have hbeld := hbel.trans ((drewN_belowA wr n).mono hsz))
              | (go_at_call 32; (with_reducible refine (HI.out _).mono ?_); rintro e w2 ⟨rfl, hb2⟩; have hown2 := ownsS.below hownd hb2 (Nat.le_refl _); have hbel2 := hbeld.trans (hb2.mono hbeld.size); have hz2 := hbel2.size))
            go_roundw
            case rel => exact ⟨R, _, rfl, hown2, hbel2, by omega, hx2⟩
            case measure => exact hRz
        · have z0 : decide ((0 : Int) < (q : Int)) = false := decide_eq_false (by omega)
          have z0' : decide (0 < q) = false := decide_eq_false h0
          rw [if_neg (fun h => h0 h.1)] at hx
          have hx2 : Hid (acc ++ idsB R.data.toList = X) := hx
          clear hx
          go_wp2_with (first
            | (go_at_call 31; (with_reducible refine HC.out.mono ?_); rintro e w1 ⟨rfl, n, rfl⟩; have hownd := ownsS.drewN hown n; have hbeld := hbel.trans ((drewN_belowA wr n).mono hsz))
            | (go_at_call 32; (with_reducible refine (HI.out _).mono ?_); rintro e w2 ⟨rfl, hb2⟩; have hown2 := ownsS.below hownd hb2 (Nat.le_refl _); have hbel2 := hbeld.trans (hb2.mono hbeld.size); have hz2 := hbel2.size))
          go_roundw
          case rel => exact ⟨R, _, rfl, hown2, hbel2, by omega, hx2⟩
          case measure => exact hRz
      · rw [if_neg hq] at hI
        have HI := Lib.hid hI
        clear hI
        rw [if_neg (fun h => by rw [List.getElem?_eq_none (by show R.size ≤ q; omega)] at h; cases h.2.2)] at hx
        have hx2 : Hid (acc ++ idsB R.data.toList = X) := hx
        clear hx
        go_wp2_with (first
          | (go_at_call 31; (with_reducible refine HC.out.mono ?_); rintro e w1 ⟨rfl, n, rfl⟩; have hownd := ownsS.drewN hown n; have hbeld := hbel.trans ((drewN_belowA wr n).mono hsz))
          | (go_at_call 32; (with_reducible refine (HI.out _).mono ?_); rintro e w2 ⟨rfl, hb2⟩; have hown2 := ownsS.below hownd hb2 (Nat.le_refl _); have hbel2 := hbeld.trans (hb2.mono hbeld.size); have hz2 := hbel2.size))
        go_roundw
        case rel => exact ⟨R, _, rfl, hown2, hbel2, by omega, hx2⟩
        case measure => exact hRz
end Go.Proofs.YtilccofdphohiaaGreatDoor
