/- Walks: the reference of tokens: Scan, Join, Bare. -/
import Derived.Test.YtlhmdooeffmedaaGreatDoorR10x
import Derived.Test.YtlhmdooeffmedaaGreatDoorTk5
namespace Go.Proofs.YtlhmdooeffmedaaGreatDoor
open Go.RowKit Pk Tk Su Fo

theorem kept_new {w1 w6 : World} {B : Nat} {e : TypeId} {v : Value} {l : List El} {o o2 : Obj} (hown : ownsE w1 B e v l) (hg : ((w1.alloc o).alloc o2).grownBy w6 v.ownBlock) : w6.heap[w1.heap.size]? = some o := by
  rw [hg.block w1.heap.size (by simp; omega) (fun e => by have := (World.ownsRow.lt hown _ e.symm).2; omega)]
  exact (heap_alloc_old _ o2 (by simp)).trans (heap_alloc_new w1 o)
set_option maxHeartbeats 4000000 in
set_option maxRecDepth 100000 in
theorem rscan_any (s : ByteArray) (w : World) (hs : s.size ≤ 10000000) : Calls Tryz.prog 7 #[.string s] w (ToksIs (sc s.data.toList) w) := by
  go_enter Tryz.func7, Tryz.ntmps7
  go_wp2
  go_loopw [0, 3] (fun sv lv wr => ∃ (S : ByteArray) (acc : List El), sv = .string S ∧ ownsE wr w.heap.size 23 lv acc ∧ Below w.heap.size w wr ∧ acc.length + S.size ≤ s.size ∧ Hid (acc ++ sc S.data.toList = sc s.data.toList)) (fun sv _ _ => match sv with | .string S => S.size | _ => 0)
  case atStart => exact ⟨s, [], rfl, ownsE.nil _ _ _, Below.refl _ _, by simp, rfl⟩
  case round =>
    obtain ⟨S, acc, rfl, hown, hbel, hal, hrel⟩ := hrel
    have hz := hbel.size
    by_cases h0 : 0 < S.size
    · have hF := fun W => rfront_any S W h0 (by omega)
      have hr : 1 ≤ (frS S).2 ∧ (frS S).2 ≤ S.size := fr_rng (l := S.data.toList) (fun e => by have := dataL S; rw [e] at this; simp at this; omega)
      obtain ⟨⟨k, n⟩, e⟩ : ∃ p, frS S = p := ⟨_, rfl⟩
      have hst := sc_step hrel h0 e
      unfold FrRetR at hF
      rw [e] at hF hr
      have hne := neS h0
      have hx := ext_size S n S.size
      have hn := ext_size S 0 n
      obtain ⟨r1, r2⟩ := hr
      have r1 : 1 ≤ n := r1
      have r2 : n ≤ S.size := r2
      have HF := Lib.hid hF
      generalize S.extract 0 n = T at HF hst hn
      obtain rfl : n = T.size := by omega
      generalize hR : S.extract T.size S.size = R at hst hx
      have hx2 : R.size + T.size = S.size := by omega
      have z1 : (0 : Int) ≤ (T.size : Int) := by omega
      have z2 : (T.size : Int) ≤ (S.size : Int) := by omega
      clear hF hrel e hx hn
      go_wp2_with (first
        | (go_at_call 18; go_loud ((with_reducible refine (HF.out _).mono ?_); rintro e w1 ⟨rfl, hb1⟩; have hown1 := ownsE.below hown hb1 (Nat.le_refl _); have hz1 := hb1.size))
        | (at_builtin; go_loud (refine append_el _ rfl (.tmp 9) (.tmp 11) elT rfl w.heap.size _ _ rfl (ownsE.alloc (ownsE.alloc hown1 _) _) ⟨_, 0, none⟩ ⟨k, T⟩ 1 rfl (cells_at _ _ (by simp) _ _) (by omega) (by simp; omega) ?_; intro v6 w6 hown6 hg6; have hb6 := Below_grownE (((hbel.trans (hb1.mono hz)).alloc (Nat.le_trans hz hz1) _).alloc (by simp; omega) _) (ownsE.alloc (ownsE.alloc hown1 _) _) hg6 (by simp; omega); have hk6 := kept_new hown1 hg6; have c1 : w6.cell? ⟨w1.heap.size, 1, none⟩ = some (.string T) := (Lib.cell_of_heap hk6 1).trans rfl; clear hg6 hk6)))
      go_roundw
      case rel => exact ⟨R, _, rfl, hown6, hb6, by rw [List.length_append, List.length_singleton]; omega, hst⟩
      case measure => show R.size < S.size; omega
    · have hnil := nilS (S := S) (by omega)
      have hX := sc_stop hrel (by omega)
      have hpost : Hid (ToksIs (sc s.data.toList) w (.returned u3) wr) := ⟨_, rfl, by rw [← hX]; exact hown, hbel⟩
      clear hrel hX hown
      go_wp2
      go_ret
      exact hpost.out
theorem joinB_step {m : List El} {i : Nat} {A : ByteArray} {X : List UInt8} (h : Hid (A.data.toList ++ joinE (m.drop i) = X)) (hi : i < m.length) : Hid ((A ++ m[i].text).data.toList ++ joinE (m.drop (i + 1)) = X) ∧ A.size + m[i].text.size ≤ X.length := by
  have e := (joinE_step h hi).out
  have : (A ++ m[i].text : ByteArray).data.toList = A.data.toList ++ m[i].text.data.toList := by rw [ByteArray.data_append, Array.toList_append]
  refine ⟨show _ = _ by rw [this]; exact e, ?_⟩
  have := joinE_len h hi
  rwa [dataL] at this
set_option maxHeartbeats 4000000 in
set_option maxRecDepth 100000 in
theorem rjoin_any (v : Value) (m : List El) (w : World) (hM : seesE w w.heap.size 23 v m) (hm : m.length ≤ 10000000) (hj : (joinE m).length ≤ 100000000) : Calls Tryz.prog 12 #[v] w fun e w' => e = .returned (.string ⟨(joinE m).toArray⟩) ∧ w = w' := by
  obtain ⟨p, c, rfl, hc, hM⟩ := hM.form
  have HM := Lib.hid hM
  have hz : Hid ((⟨#[]⟩ : ByteArray).data.toList ++ joinE (m.drop 0) = joinE m) := rfl
  generalize joinE m = X at hz hj ⊢
  clear hM
  go_enter Tryz.func12, Tryz.ntmps12
  go_wp2
  go_loop [3, 4] (fun sv iv => ∃ (i : Nat) (A : ByteArray), iv = .int .i64 i ∧ sv = .string A ∧ i ≤ m.length ∧ Hid (A.data.toList ++ joinE (m.drop i) = X)) (fun _ iv => m.length - (intOf iv).toNat)
  case atStart => exact ⟨0, ⟨#[]⟩, by first | rfl | trivial, rfl, by omega, hz⟩
  case round =>
    clear hz
    obtain ⟨i, A, rfl, rfl, hi, hrel⟩ := hrel
    by_cases hlt : i < m.length
    · obtain ⟨hst, hln⟩ := joinB_step hrel hlt
      rcases HM.out with rfl | ⟨g, rfl, hg, hcell⟩
      · simp at hlt
      · obtain ⟨c0, c1⟩ := hcell i hlt
        have hAs : (A ++ m[i].text : ByteArray).size = A.size + m[i].text.size := ByteArray.size_append
        clear hcell hrel HM
        generalize m[i].text = T at *
        generalize hAT : A ++ T = AT at *
        go_wp2
        go_round
        case rel => exact ⟨i + 1, AT, by go_num, rfl, by omega, hst⟩
        case measure => simp [intOf]; omega
    · have hX : A = ⟨X.toArray⟩ := by
        have e := hrel.out
        rw [List.drop_eq_nil_of_le (by omega)] at e
        have e : A.data.toList = X := by simpa [joinE] using e
        rw [← e]
      clear hrel
      subst hX
      go_wp2
      go_ret
      exact ⟨rfl, rfl⟩
set_option maxHeartbeats 4000000 in
set_option maxRecDepth 100000 in
theorem rbare_any (v : Value) (m : List El) (w : World) (hM : seesE w w.heap.size 23 v m) (hm : m.length ≤ 10000000) : Calls Tryz.prog 10 #[v] w (ToksIs (bareE m) w) := by
  obtain ⟨p, c, rfl, hc, hM⟩ := hM.form
  rcases hM with rfl | ⟨g, rfl, hg, hM⟩
  · go_enter Tryz.func10, Tryz.ntmps10
    go_wp2
    go_loopw [3, 4] (fun ov iv wr => ov = .slice none 0 0 ∧ iv = .int .i64 0 ∧ wr = w) (fun ov iv _ => 0)
    case atStart => exact ⟨rfl, by first | rfl | trivial, rfl⟩
    case round =>
      obtain ⟨rfl, rfl, rfl⟩ := hrel
      go_wp2
      go_ret
      exact ⟨_, rfl, ownsE.nil _ _ _, Below.refl _ _⟩
  · have HM := Lib.hid hM
    have hz : Hid ([] ++ bareE (m.drop 0) = bareE m) := rfl
    generalize bareE m = X at hz ⊢
    clear hM
    go_enter Tryz.func10, Tryz.ntmps10
    go_wp2
    go_loopw [3, 4] (fun ov iv wr => ∃ (i : Nat) (acc : List El), iv = .int .i64 i ∧ ownsE wr w.heap.size 23 ov acc ∧ Below w.heap.size w wr ∧ i ≤ m.length ∧ acc.length ≤ i ∧ Hid (acc ++ bareE (m.drop i) = X)) (fun _ iv _ => m.length - (intOf iv).toNat)
    case atStart => exact ⟨0, [], by first | rfl | trivial, ownsE.nil _ _ _, Below.refl _ _, by omega, by simp, hz⟩
    case round =>
      clear hz
      obtain ⟨i, acc, rfl, hown, hbel, hi, hal, hrel⟩ := hrel
      have hsz := hbel.size
      by_cases hlt : i < m.length
      · obtain ⟨s1, s2⟩ := bareE_step hrel hlt
        obtain ⟨c0, c1⟩ := HM.out i hlt
        have c0 := cell_later hbel c0
        have c1 := cell_later hbel c1
        clear hrel
        by_cases h6 : m[i].kind = 6
        · have hd := s1 (.inl h6)
          have q6 : ((m[i].kind : Int) != 6) = false := bne_eq_false_iff_eq.2 (by omega)
          clear s1 s2 h6
          go_wp2
          go_roundw
          case rel => exact ⟨i + 1, _, by go_num, hown, hbel, by omega, by omega, hd⟩
          case measure => simp [intOf]; omega
        · have q6 : ((m[i].kind : Int) != 6) = true := bne_iff_ne.2 (by omega)
          by_cases h3 : m[i].kind = 3
          · have hd := s1 (.inr h3)
            have q3 : ((m[i].kind : Int) != 3) = false := bne_eq_false_iff_eq.2 (by omega)
            clear s1 s2 h6 h3
            go_wp2
            go_roundw
            case rel => exact ⟨i + 1, _, by go_num, hown, hbel, by omega, by omega, hd⟩
            case measure => simp [intOf]; omega
          · have hd := s2 h6 h3
            have q3 : ((m[i].kind : Int) != 3) = true := bne_iff_ne.2 (by omega)
            clear s1 s2 h6 h3
            generalize m[i].kind = k at *
            generalize m[i].text = T at *
            go_wp2_with (at_builtin; go_loud (refine append_el _ rfl (.tmp 25) (.tmp 30) elT rfl w.heap.size _ _ rfl (ownsE.alloc hown _) ⟨_, 0, none⟩ ⟨k, T⟩ 1 rfl (cells_at _ _ (by simp) _ _) (by omega) (by simp; omega) ?_; intro v6 w6 hown6 hg6; have hb6 := Below_grownE (hbel.alloc hsz _) (ownsE.alloc hown _) hg6 (Nat.le_trans hsz (heap_size_alloc_le _ _)); clear hg6))
            go_roundw
            case rel => exact ⟨i + 1, _, by go_num, hown6, hb6, by omega, by rw [List.length_append, List.length_singleton]; omega, hd⟩
            case measure => simp [intOf]; omega
      · have hX := bareE_end hrel hlt
        have hpost : Hid (ToksIs X w (.returned u3) wr) := ⟨_, rfl, by rw [← hX]; exact hown, hbel⟩
        clear hrel hX hown
        go_wp2
        go_ret
        exact hpost.out
end Go.Proofs.YtlhmdooeffmedaaGreatDoor
