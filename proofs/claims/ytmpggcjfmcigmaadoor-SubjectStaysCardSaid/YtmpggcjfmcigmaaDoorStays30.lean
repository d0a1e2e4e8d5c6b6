/- Walks: the law SubjectStays. -/
import Derived.Test.YtmpggcjfmcigmaaDoorLaw30
import Derived.Test.YtmpggcjfmcigmaaDoorPl30f
import Derived.Test.YtmpggcjfmcigmaaDoorShelfV
import Derived.ChangeSlices
import Derived.Carry
namespace Go.Proofs.YtmpggcjfmcigmaaDoor
open Go.RowKit Pk U8 Su Fo

theorem validP_any (s : ByteArray) (w : World) (hT : Tabs w) (hs : s.size ≤ 3000000) :
    Calls Tryd.prog 17 #[.string s] w fun e w' => e = .returned (.bool (Lib.validD s.data.toList)) ∧ Below w.heap.size w w' := by
  have h : Hid (∀ w, Tabs w → Calls Tryd.prog 28 #[.string s] w fun e w' => e = .returned (.bool (Lib.validD s.data.toList)) ∧ Below w.heap.size w w') := fun w hT => Tryd.hV_ValidString s w (by omega) hT
  have HT := Lib.hid hT
  have tb := Below.refl w.heap.size w
  clear hT
  generalize Lib.validD s.data.toList = b at h
  go_enter Tryd.func17, Tryd.ntmps17
  go_wp2_with (go_at_call 28; (with_reducible refine (h.out _ HT.out).mono ?_); rintro e w1 ⟨rfl, hb1⟩; have tb := tb.trans (hb1.mono tb.size))
  go_ret
  exact ⟨rfl, tb⟩
def LaidIs (S : ByteArray) (w : World) (e : Ending) (w' : World) : Prop := (∃ X : ByteArray, e = .returned (.string X) ∧ X.size ≤ S.size + 20 ∧ Bs X.data.toList = Bs S.data.toList ∧ Ag X.data.toList = true) ∧ w = w'
theorem laidIs_of {S X : ByteArray} (k : Nat) (hk : k < 8) (hX : X.data.toList = laidL S.data.toList k) (w : World) : LaidIs S w (.returned (.string X)) w := by
  obtain ⟨h1, h2⟩ := same_laid S.data.toList k hk
  refine ⟨⟨X, rfl, ?_, ?_, ?_⟩, rfl⟩
  · have e : X.size = X.data.toList.length := rfl
    have e2 : S.size = S.data.toList.length := rfl
    rw [e, e2, hX]
    exact laidL_len _ k
  · unfold Bs; rw [hX, h1]
  · unfold Ag; rw [hX, h2]
set_option maxHeartbeats 1000000 in
theorem laidP_any (S : ByteArray) (n : Int) (w : World) (hS : S.size ≤ 10000) : Calls Tryd.prog 16 #[.string S, .int .i64 n] w (LaidIs S w) := by
  obtain ⟨k, hk, hb⟩ := low3 n
  have HL := Lib.hid (fun X k hk hX w => laidIs_of (S := S) (X := X) k hk hX w)
  have hk' : k = 0 ∨ k = 1 ∨ k = 2 ∨ k = 3 ∨ k = 4 ∨ k = 5 ∨ k = 6 ∨ k = 7 := by omega
  rcases hk' with rfl | rfl | rfl | rfl | rfl | rfl | rfl | rfl
  · have hb' : bits .and .i64 n 7 = 0 := hb
    clear hb hk
    go_enter Tryd.func16, Tryd.ntmps16
    go_wp2
    go_ret
    exact HL.out _ 0 (by omega) (by simp [laidL, p0]) _
  · have hb' : bits .and .i64 n 7 = 1 := hb
    clear hb hk
    go_enter Tryd.func16, Tryd.ntmps16
    go_wp2
    go_ret
    exact HL.out _ 1 (by omega) (by simp [laidL, p1]) _
  · have hb' : bits .and .i64 n 7 = 2 := hb
    clear hb hk
    go_enter Tryd.func16, Tryd.ntmps16
    go_wp2
    go_ret
    exact HL.out _ 2 (by omega) (by simp [laidL, p2]) _
  · have hb' : bits .and .i64 n 7 = 3 := hb
    clear hb hk
    go_enter Tryd.func16, Tryd.ntmps16
    go_wp2
    go_ret
    exact HL.out _ 3 (by omega) (by simp [laidL, q3]) _
  · have hb' : bits .and .i64 n 7 = 4 := hb
    clear hb hk
    go_enter Tryd.func16, Tryd.ntmps16
    go_wp2
    go_ret
    exact HL.out _ 4 (by omega) (by simp [laidL, p4]) _
  · have hb' : bits .and .i64 n 7 = 5 := hb
    clear hb hk
    go_enter Tryd.func16, Tryd.ntmps16
    go_wp2
    go_ret
    exact HL.out _ 5 (by omega) (by simp [laidL, p5]) _
  · have hb' : bits .and .i64 n 7 = 6 := hb
    clear hb hk
    go_enter Tryd.func16, Tryd.ntmps16
    go_wp2
    go_ret
    exact HL.out _ 6 (by omega) (by simp [laidL, p6, q6]) _
  · have hb' : bits .and .i64 n 7 = 7 := hb
    clear hb hk
    go_enter Tryd.func16, Tryd.ntmps16
    go_wp2
    go_ret
    exact HL.out _ 7 (by omega) (by simp [laidL, p7, q7]) _
/-- a slice of ints reads as these numbers -/
def IntsAt (w : World) (v : Value) (ns : List Int) : Prop := (v = .slice none 0 0 ∧ ns = []) ∨ ∃ (a : Addr) (cap : Nat), v = .slice (some a) ns.length cap ∧ ns.length ≤ cap ∧ cap ≤ maxLen ∧ (0 < ns.length → ∃ b off, a = ⟨b, off, none⟩ ∧ ∀ j (h : j < ns.length), w.cell? ⟨b, off + j, none⟩ = some (.int .i64 ns[j]))
theorem laidOut : laidOutB Tryd.prog = true := by kernel_rfl
theorem ints_of {H : Type} {enc : TypeId × Value → H} {W : World} {v : Value} {d : DataW H} {p : List MemPlace} {base : Nat} (hv : Value.okWide Tryd.prog W .any base 27 v) (h : DataW.Trod enc Tryd.prog W 0 (fun _ => true) true 27 v d p) : ∃ ns, IntsAt W v ns := by
  obtain ⟨fuel, hf⟩ := h
  obtain ⟨a0, len0, cap0, rfl⟩ := WideShapes.okWide_slice Tryd.underlying27 hv
  rcases ChangeShapes.open_ints Tryd.underlying27 Tryd.underlying3 (by kernel_rfl) hf with ⟨hc, -⟩ | ⟨a, len, cap, zs, hc, -, h1, h2, h3, -, h4, -⟩
  · have hc : Value.slice a0 len0 cap0 = .slice none 0 0 := List.head_eq_of_cons_eq hc
    exact ⟨[], .inl ⟨hc, rfl⟩⟩
  · have hc : Value.slice a0 len0 cap0 = .slice (some a) len cap := List.head_eq_of_cons_eq hc
    rw [if_pos rfl] at h3
    have hl : (zs.take len).length = len := by rw [List.length_take]; omega
    refine ⟨zs.take len, .inr ⟨a, cap, by rw [hl]; exact hc, by rw [hl]; exact h1, h2, fun h0 => ?_⟩⟩
    rw [hl] at h0
    obtain ⟨b, off, rfl, h5⟩ := ints_at h4 (by omega)
    refine ⟨b, off, rfl, fun j hj => ?_⟩
    rw [hl] at hj
    rw [h5 j (by omega), List.getElem_take]
    congr 2
    rw [List.getD_eq_getElem?_getD, List.getElem?_eq_getElem (by omega)]; rfl
def StB (s : ByteArray) : ByteArray := ⟨(Bs s.data.toList).toArray⟩
theorem stB_list (s : ByteArray) : (StB s).data.toList = BsL s.data.toList := rfl
theorem stB_size (s : ByteArray) (hs : s.size ≤ 3000) : (StB s).size ≤ 100000 := by
  have h1 := foldL_length (red (plain s.data.toList)).1
  have h2 := red_length _ (plain s.data.toList) (Nat.le_refl _)
  have h3 := plain_length s.data.toList
  have h4 : s.data.toList.length = s.size := rfl
  have h5 : (StB s).size = (Bs s.data.toList).length := rfl
  have h6 : Bs s.data.toList = foldL (red (plain s.data.toList)).1 := rfl
  rw [h5, h6]; omega
set_option maxHeartbeats 4000000 in
set_option maxRecDepth 100000 in
theorem stays_any (s : ByteArray) (v : Value) (ns : List Int) (w : World) (h : Ready w) (hv : IntsAt w v ns) :
    Calls Tryd.prog 6 #[.string s, v] w fun e w' => e = .returned (.bool true) ∧ Below w.heap.size w w' := by
  have H := Lib.hid h
  have tb := Below.refl w.heap.size w
  clear h
  have hlen : ∃ c, ∃ p, v = .slice p ns.length c := by
    rcases hv with ⟨rfl, rfl⟩ | ⟨a, cap, rfl, -⟩
    · exact ⟨_, _, rfl⟩
    · exact ⟨_, _, rfl⟩
  have hcell : 0 < ns.length → ∃ b off cap, v = .slice (some ⟨b, off, none⟩) ns.length cap ∧ ns.length ≤ cap ∧ cap ≤ maxLen ∧ ∀ j (h : j < ns.length), w.cell? ⟨b, off + j, none⟩ = some (.int .i64 ns[j]) := by
    intro h0
    rcases hv with ⟨rfl, rfl⟩ | ⟨a, cap, rfl, h1, h2, h3⟩
    · exact absurd h0 (by simp)
    · obtain ⟨b, off, rfl, h4⟩ := h3 h0
      exact ⟨b, off, cap, rfl, h1, h2, h4⟩
  clear hv
  by_cases hs : s.size ≤ 2000
  · have hfw := fun w => few_any s w
    rw [decide_eq_true hs] at hfw
    have HF := Lib.hid hfw
    clear hfw
    by_cases hn : ns.length ≤ 20
    · have hb := fun w hw => base_rd s w hw (by omega)
      have hbz := stB_size s (by omega)
      obtain ⟨hb1, hb2, hb3⟩ := base_base s.data.toList
      have hbb := fun w hw => base_rd (StB s) w hw (by omega)
      have hba := fun w hw => again_rd (StB s) w hw (by omega)
      have hbv := fun w (hw : Ready w) => validP_any (StB s) w hw.tabs (by omega)
      rw [stB_list] at hbb hba hbv
      rw [valid_of hb3] at hbv
      have e1 : (⟨(Bs (BsL s.data.toList)).toArray⟩ : ByteArray) = StB s := by
        unfold StB Bs; rw [hb1, hb2]; rfl
      have e2 : Ag (BsL s.data.toList) = false := by unfold Ag; rw [hb1]
      rw [e1] at hbb
      rw [e2] at hba
      have hgen : Hid (∀ X : ByteArray, X.size ≤ 3000 → Bs X.data.toList = Bs s.data.toList → ∀ w, Ready w → Calls Tryd.prog 9 #[.string X] w fun e w' => e = .returned (.string (StB s)) ∧ Below w.heap.size w w') := fun X hX he w hw => by
        have := base_rd X w hw (by omega)
        rw [he] at this; exact this
      have hgen2 : Hid (∀ X : ByteArray, X.size ≤ 3000 → Ag X.data.toList = true → ∀ w, Ready w → Calls Tryd.prog 11 #[.string X] w fun e w' => e = .returned (.bool true) ∧ Below w.heap.size w w') := fun X hX he w hw => by
        have := again_rd X w hw (by omega)
        rw [he] at this; exact this
      have hb' : ∀ w, Ready w → Calls Tryd.prog 9 #[.string s] w fun e w' => e = .returned (.string (StB s)) ∧ Below w.heap.size w w' := fun w hw => hb w hw
      have HB := Lib.hid hb'
      have HBB := Lib.hid hbb
      have HBA := Lib.hid hba
      have HBV := Lib.hid hbv
      clear hb hb' hbb hba hbv hbz hb1 hb2 hb3 e1 e2
      generalize StB s = B at HB HBB HBA HBV hgen hgen2
      obtain ⟨c, p, hvv⟩ := hlen
      have HC := Lib.hid hcell
      clear hcell
      have d1 : decide ((20 : Int) < ns.length) = false := decide_eq_false (by omega)
      subst hvv
      go_enter Tryd.func6, Tryd.ntmps6
      go_wp2_with (first
            | (go_at_call 7; (with_reducible refine (small_any _ (H.out.later tb)).mono ?_); rintro e w1 ⟨rfl, hb1⟩; have tb := tb.trans (hb1.mono tb.size))
            | (go_at_call 8; (with_reducible refine (HF.out _).mono ?_); rintro e w1 ⟨rfl, rfl⟩)
            | (go_at_call 9; (with_reducible refine (HB.out _ (H.out.later tb)).mono ?_); rintro e w1 ⟨rfl, hb1⟩; have tb := tb.trans (hb1.mono tb.size)))
      have tb1 := tb
      clear tb
      go_loopw [0, 7] (fun sv kv wr => ∃ (S : ByteArray) (k : Nat), sv = .string S ∧ kv = .int .i64 k ∧ k ≤ ns.length ∧ S.size ≤ 2000 + 20 * k ∧ Hid (Bs S.data.toList = Bs s.data.toList) ∧ Below w.heap.size w wr) (fun _ kv _ => ns.length - (intOf kv).toNat)
      case atStart => exact ⟨s, 0, rfl, by first | rfl | trivial, by omega, by omega, Lib.hid rfl, tb1⟩
      case round =>
        obtain ⟨S, k, rfl, rfl, hk, hS, hSB, tb⟩ := hrel
        by_cases hlt : k < ns.length
        · obtain ⟨b, off, cap, hvv, hlc, hcm, hcells⟩ := HC.out (by omega)
          have hck := cell_later tb (hcells k hlt)
          simp only [Value.slice.injEq] at hvv
          obtain ⟨rfl, -, rfl⟩ := hvv
          have hld := Lib.hid (fun w => laidP_any S ns[k] w (by omega))
          unfold LaidIs at hld
          clear hcells
          go_wp2_with (go_at_call 16; (with_reducible refine (hld.out _).mono ?_); rintro e w2 ⟨⟨X, rfl, hX1, hX2, hX3⟩, rfl⟩)
          have hd : Hid (Bs X.data.toList = Bs s.data.toList) := by show _ = _; rw [hX2, hSB.out]
          have HX3 := Lib.hid hX3
          clear hX2 hX3 hSB
          go_wp2_with (first
            | (go_at_call 9; (with_reducible refine (hgen.out _ (by omega) hd.out _ (H.out.later tb)).mono ?_); rintro e w1 ⟨rfl, hb1⟩; have tb := tb.trans (hb1.mono tb.size))
            | (go_at_call 11; (with_reducible refine (hgen2.out _ (by omega) HX3.out _ (H.out.later tb)).mono ?_); rintro e w1 ⟨rfl, hb1⟩; have tb := tb.trans (hb1.mono tb.size)))
          go_roundw
          case rel => exact ⟨X, k + 1, rfl, by go_num, by omega, by omega, hd, tb⟩
          case measure => simp [intOf]; omega
        · clear HC
          go_wp2_with (first
            | (go_at_call 9; (with_reducible refine (HBB.out _ (H.out.later tb)).mono ?_); rintro e w1 ⟨rfl, hb1⟩; have tb := tb.trans (hb1.mono tb.size))
            | (go_at_call 11; (with_reducible refine (HBA.out _ (H.out.later tb)).mono ?_); rintro e w1 ⟨rfl, hb1⟩; have tb := tb.trans (hb1.mono tb.size))
            | (go_at_call 17; (with_reducible refine (HBV.out _ (H.out.later tb)).mono ?_); rintro e w1 ⟨rfl, hb1⟩; have tb := tb.trans (hb1.mono tb.size)))
          go_ret
          exact ⟨rfl, tb⟩
    · have d1 : decide ((20 : Int) < ns.length) = true := decide_eq_true (by omega)
      clear hcell
      obtain ⟨c, p, hvv⟩ := hlen
      subst hvv
      go_enter Tryd.func6, Tryd.ntmps6
      go_wp2_with (first
            | (go_at_call 7; (with_reducible refine (small_any _ (H.out.later tb)).mono ?_); rintro e w1 ⟨rfl, hb1⟩; have tb := tb.trans (hb1.mono tb.size))
            | (go_at_call 8; (with_reducible refine (HF.out _).mono ?_); rintro e w1 ⟨rfl, rfl⟩))
      go_ret
      exact ⟨rfl, tb⟩
  · have hfw := fun w => few_any s w
    rw [decide_eq_false hs] at hfw
    have HF := Lib.hid hfw
    clear hfw hcell
    obtain ⟨c, p, hvv⟩ := hlen
    subst hvv
    go_enter Tryd.func6, Tryd.ntmps6
    go_wp2_with (first
            | (go_at_call 7; (with_reducible refine (small_any _ (H.out.later tb)).mono ?_); rintro e w1 ⟨rfl, hb1⟩; have tb := tb.trans (hb1.mono tb.size))
            | (go_at_call 8; (with_reducible refine (HF.out _).mono ?_); rintro e w1 ⟨rfl, rfl⟩))
    go_ret
    exact ⟨rfl, tb⟩
end Go.Proofs.YtmpggcjfmcigmaaDoor
