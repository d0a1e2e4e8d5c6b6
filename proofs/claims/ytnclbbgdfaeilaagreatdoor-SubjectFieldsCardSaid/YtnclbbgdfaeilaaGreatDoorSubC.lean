/- Walks: subject: plain, Base, Again. Walks: subject: Base, Again. -/
import Derived.Test.YtnclbbgdfaeilaaGreatDoorSub5
import Derived.Test.YtnclbbgdfaeilaaGreatDoorCha
import Derived.Test.YtnclbbgdfaeilaaGreatDoorFold2
import Derived.Test.YtnclbbgdfaeilaaGreatDoorBldR
import Derived.Lib.ConvBytes
import Derived.Lib.AtoiErrMem
namespace Go.Proofs.YtnclbbgdfaeilaaGreatDoor
open Go.RowKit Pk U8 Su Fo

theorem blkset : ∀ n : Nat, n < 256 → decide (0 ≤ Lib.indexByte [9, 10, 13, 32] (UInt8.ofNat n)) = blk (UInt8.ofNat n) := by decide +kernel
theorem blk_ix (c : UInt8) : decide (0 ≤ Lib.indexByte [9, 10, 13, 32] c) = blk c := by
  have := blkset c.toNat c.toNat_lt
  simpa using this
theorem col_step {s : ByteArray} {k : Nat} {b : Bool} {acc X : List UInt8} (h : Hid (acc ++ col b (tl s k) = X)) (hk : k < s.size) :
    (blk s[k] = false → Hid (acc ++ [s[k]] ++ col false (tl s (k + 1)) = X)) ∧ (blk s[k] = true → b = false → Hid (acc ++ [32] ++ col true (tl s (k + 1)) = X)) ∧ (blk s[k] = true → b = true → Hid (acc ++ col true (tl s (k + 1)) = X)) := by
  have e := h.out
  rw [tl_cons s k hk, col] at e
  refine ⟨fun h1 => ?_, fun h1 h2 => ?_, fun h1 h2 => ?_⟩
  · rw [h1, if_neg (by decide)] at e; show _ = _; rw [← e]; simp
  · rw [h1, h2, if_pos rfl, if_neg (by decide)] at e; show _ = _; rw [← e]; simp
  · rw [h1, h2, if_pos rfl, if_pos rfl] at e; exact e
theorem col_end {s : ByteArray} {k : Nat} {b : Bool} {acc X : List UInt8} (h : Hid (acc ++ col b (tl s k) = X)) (hk : ¬ k < s.size) : acc = X := by
  have e := h.out
  rw [tl_end s k (by omega)] at e
  simpa [col] using e
theorem ibL (x : UInt8) (w : World) : Calls Tryz.prog 48 #[.string ⟨#[9, 10, 13, 32]⟩, .int .u8 x.toNat] w fun e w' => e = .returned (.int .i64 (Lib.indexByte [9, 10, 13, 32] x)) ∧ w = w' := ibS ⟨#[9, 10, 13, 32]⟩ x w
theorem wb32 (B G b : Nat) (l : List UInt8) (w : World) (h : BldR w G b l) (hlen : l.length + 1 ≤ 140737488355328) (hG : G ≤ w.heap.size) (hBb : B ≤ b) (hBG : B ≤ G) :
    Calls Tryz.prog 35 #[.pointer (some ⟨b, 0, none⟩), .int .u8 32] w fun e w' => e = .returned .nilIface ∧ BldR w' G b (l ++ [32]) ∧ Below B w w' ∧ KeptUnder G b w w' := wbR B G b l 32 w h hlen hG hBb hBG
theorem conv_bytes (w : World) (s : ByteArray) : ∃ cp w2, (convert 9 46 (.string s)).run Tryz.prog w = .ok (.slice (some ⟨w.heap.size, 0, none⟩) s.size cp) w2 ∧ (∀ j (hj : j < s.size), w2.cell? ⟨w.heap.size, j, none⟩ = some (.int .u8 s[j].toNat)) ∧ Below w.heap.size w w2 ∧ w.heap.size < w2.heap.size := by
  refine ⟨_, _, Lib.run_convert_string_bytes w 9 46 5 s Tryz.underlying9 Tryz.underlying46 Tryz.underlying5, fun j hj => ?_, Lib.bytesWorld_below _ _ _, by rw [Lib.bytesWorld_size]; omega⟩
  rw [Lib.bytesWorld_cell _ _ _ _ hj]
  have : s.data.toList.getD j 0 = s[j] := by
    rw [List.getD_eq_getElem?_getD, List.getElem?_eq_getElem (by show j < s.size; exact hj)]; rfl
  rw [this]
set_option maxHeartbeats 2000000 in
set_option maxRecDepth 100000 in
theorem plain_any (s : ByteArray) (w : World) (hT : Tabs w) (hs : s.size ≤ 3000000) : Calls Tryz.prog 40 #[.string s] w fun e w' => e = .returned (.string ⟨(plain s.data.toList).toArray⟩) ∧ Below w.heap.size w w' := by
  have hr := fun w' (hb : Below w.heap.size w w') => repairP_any s w' (hT.later hb) (by omega)
  obtain ⟨P, hP, hPl, hPs⟩ := arrS (repairL s.data.toList)
  rw [← hP] at hr
  have hPn : P.size ≤ 9000000 := by
    have := repairL_length s.data.toList
    have hl : s.data.toList.length = s.size := rfl
    omega
  have hpl : plain s.data.toList = col false (tl P 0) := by unfold plain; rw [tl_zero, hPl]
  have HPL := Lib.hid hpl
  have HR := Lib.hid hr
  clear hr hP hPl hPs hpl hT
  go_enter Tryz.func40, Tryz.ntmps40
  go_wp2_with (go_at_call 12; (with_reducible refine (HR.out _ ((Below.refl _ _).alloc (Nat.le_refl _) _)).mono ?_); rintro e w1 ⟨rfl, hb1⟩; obtain ⟨cp, w2, hcv, hcells, hb2, hz2⟩ := conv_bytes w1 P)
  have hw0 : w1.heap[w.heap.size]? = some (.cells #[.pointer none, .slice none 0 0] 48 (0, 0)) := (hb1.block _ (by simp)).trans (heap_alloc_new w _)
  have hz1 : w.heap.size < w1.heap.size := lt_of_block hw0
  have hR2 : BldR w2 (w1.heap.size + 1) w.heap.size [] := BldR.new ((hb2.block _ hz1).trans hw0)
  have hbel2 : Below w.heap.size w w2 := (((Below.refl _ _).alloc (Nat.le_refl _) _).trans (hb1.mono (by simp))).trans (hb2.mono (by omega))
  have HCE := Lib.hid hcells
  generalize hg : w1.heap.size = g at *
  clear hcv hb1 hb2 hw0 hcells hg
  go_loopw [4, 12] (fun bv iv wr => ∃ (k : Nat) (b : Bool) (acc : List UInt8), bv = .bool b ∧ iv = .int .i64 k ∧ BldR wr (g + 1) w.heap.size acc ∧ KeptUnder (g + 1) w.heap.size w2 wr ∧ g < wr.heap.size ∧ Below w.heap.size w wr ∧ k ≤ P.size ∧ acc.length ≤ k ∧ Hid (acc ++ col b (tl P k) = plain s.data.toList)) (fun _ iv _ => P.size - (intOf iv).toNat)
  case atStart => exact ⟨0, false, [], rfl, rfl, hR2, KeptUnder.refl _ _ _, hz2, hbel2, by omega, by simp, HPL.out.symm⟩
  case round =>
    obtain ⟨k, b, acc, rfl, rfl, hB, hK, hgz, hbel, hk, hal, hrel⟩ := hrel
    by_cases hlt : k < P.size
    · obtain ⟨s1, s2, s3⟩ := col_step hrel hlt
      have hck : wr.cell? ⟨g, k, none⟩ = some (.int .u8 P[k].toNat) := (hK.cell (by omega) (by omega) k).trans (HCE.out k hlt)
      obtain ⟨ix, hix⟩ : ∃ ix, ix = Lib.indexByte [9, 10, 13, 32] P[k] := ⟨_, rfl⟩
      have hI := ibL P[k]
      have hbl := blk_ix P[k]
      rw [← hix] at hI hbl
      generalize P[k] = c at s1 s2 s3 hck hI hbl
      have HI := Lib.hid hI
      cases hb : blk c with
      | false =>
        have hd := Lib.hid (s1 hb)
        have hx : decide (0 ≤ ix) = false := hbl.trans hb
        clear s1 s2 s3 hrel hix hI hbl hb
        go_wp2_with (first
          | (go_at_call 48; refine (HI.out _).mono ?_; rintro e w' ⟨rfl, rfl⟩)
          | (go_at_call 35; (with_reducible refine (wbR w.heap.size _ _ _ _ _ hB ?_ ?_ ?_ ?_).mono ?_); (omega); (omega); (omega); (omega); rintro e w' ⟨rfl, hB2, hb2, hk2⟩))
        go_roundw
        case rel => exact ⟨k + 1, false, _, rfl, by go_num, hB2, hK.trans hk2, by have := hb2.size; omega, hbel.trans hb2, by omega, by simp; omega, hd.out⟩
        case measure => simp [intOf]; omega
      | true =>
        have hx : decide (0 ≤ ix) = true := hbl.trans hb
        cases b with
        | false =>
          have hd := Lib.hid (s2 hb rfl)
          clear s1 s2 s3 hrel hix hI hbl hb
          go_wp2_with (first
            | (go_at_call 48; refine (HI.out _).mono ?_; rintro e w' ⟨rfl, rfl⟩)
            | (go_at_call 35; (with_reducible refine (wb32 w.heap.size _ _ _ _ hB ?_ ?_ ?_ ?_).mono ?_); (omega); (omega); (omega); (omega); rintro e w' ⟨rfl, hB2, hb2, hk2⟩))
          go_roundw
          case rel => exact ⟨k + 1, true, _, rfl, by go_num, hB2, hK.trans hk2, by have := hb2.size; omega, hbel.trans hb2, by omega, by simp; omega, hd.out⟩
          case measure => simp [intOf]; omega
        | true =>
          have hd := Lib.hid (s3 hb rfl)
          clear s1 s2 s3 hrel hix hI hbl hb
          go_wp2_with (first
            | (go_at_call 48; refine (HI.out _).mono ?_; rintro e w' ⟨rfl, rfl⟩))
          go_roundw
          case rel => exact ⟨k + 1, true, _, rfl, by go_num, hB, hK, by omega, hbel, by omega, by omega, hd.out⟩
          case measure => simp [intOf]; omega
    · have he := Lib.hid (col_end hrel hlt)
      have hS := bstr w.heap.size w.heap.size acc wr (hB.bld (Nat.le_refl _) (by omega)) hbel.size
      clear hrel
      go_wp2_with (go_at_call 32; refine hS.mono ?_; rintro e w' ⟨rfl, -, hb3, -⟩)
      go_ret
      exact ⟨congrArg (fun l : List UInt8 => Ending.returned (.string ⟨l.toArray⟩)) he.out, hbel.trans hb3⟩
end Go.Proofs.YtnclbbgdfaeilaaGreatDoor
namespace Go.Proofs.YtnclbbgdfaeilaaGreatDoor
open Go.RowKit Pk U8 Su Fo

theorem red_length : ∀ (n : Nat) (l : List UInt8), l.length ≤ n → (red l).1.length ≤ l.length := by
  intro n
  induction n with
  | zero => intro l hl; have : l = [] := List.eq_nil_of_length_eq_zero (by omega); subst this; rw [red_none step_nil]; simp
  | succ n ih =>
    intro l hl
    cases hs : stepR l with
    | none => rw [red_none hs]; simp
    | some p =>
      obtain ⟨t, b⟩ := p
      have hlt := stepR_lt hs
      have := ih t (by omega)
      rw [red_some hs]
      show (red t).1.length ≤ _
      omega
theorem plain_length (l : List UInt8) : (plain l).length ≤ 3 * l.length := by
  have h1 := col_length (repairL l) false
  have h2 := repairL_length l
  show (col false (repairL l)).length ≤ _
  omega

def Bs (l : List UInt8) : List UInt8 := foldL (red (plain l)).1
def Ag (l : List UInt8) : Bool := (red (plain l)).2
set_option maxHeartbeats 1000000 in
theorem base_any (s : ByteArray) (w : World) (hT : Tabs w) (b off cap : Nat) (hS : SpansAt w b off cap) (hs : s.size ≤ 3000000) :
    Calls Tryz.prog 16 #[.string s] w fun e w' => e = .returned (.string ⟨(Bs s.data.toList).toArray⟩) ∧ Below w.heap.size w w' := by
  have hp := fun w' (hb : Below w.heap.size w w') => plain_any s w' (hT.later hb) hs
  have hpl := plain_length s.data.toList
  obtain ⟨P, hP, hPl, hPs⟩ := arrS (plain s.data.toList)
  rw [← hP] at hp
  have hsl : s.data.toList.length = s.size := rfl
  have hr := fun w' => reduce_any P w' (by omega)
  rw [hPl] at hr
  have hrl := red_length _ (plain s.data.toList) (Nat.le_refl _)
  have hb : Bs s.data.toList = foldL (red (plain s.data.toList)).1 := rfl
  generalize red (plain s.data.toList) = R at hr hrl hb
  obtain ⟨R1, R2⟩ := R
  obtain ⟨A, hA, hAl, hAs⟩ := arrS R1
  have hr' : ∀ w', Calls Tryz.prog 39 #[.string P] w' fun e w'' => e = .returned (.tuple #[.string A, .bool R2]) ∧ Below w'.heap.size w' w'' := by
    intro w'; rw [hA]; exact hr w'
  have hrl' : R1.length ≤ 9000000 := by simp only at hrl; omega
  have hf := fun w' (hb : Below w.heap.size w w') => foldP_any A w' (by omega) b off cap (hS.later hb)
  rw [hAl] at hf
  have hb' : Bs s.data.toList = foldL R1 := hb
  rw [← hb'] at hf
  have HP := Lib.hid hp
  have HR := Lib.hid hr'
  have HF := Lib.hid hf
  clear hp hr hr' hf hP hPl hPs hA hAl hAs hb hb' hrl hrl' hpl hsl hS hT hs
  have tb := Below.refl w.heap.size w
  go_enter Tryz.func16, Tryz.ntmps16
  go_wp2_with (first
    | (go_at_call 40; (with_reducible refine (HP.out _ tb).mono ?_); rintro e w1 ⟨rfl, hb1⟩; have tb := tb.trans (hb1.mono tb.size))
    | (go_at_call 39; (with_reducible refine (HR.out _).mono ?_); rintro e w1 ⟨rfl, hb1⟩; have tb := tb.trans (hb1.mono tb.size))
    | (go_at_call 38; (with_reducible refine (HF.out _ tb).mono ?_); rintro e w1 ⟨rfl, hb1⟩; have tb := tb.trans (hb1.mono tb.size)))
  go_ret
  exact ⟨rfl, tb⟩
set_option maxHeartbeats 1000000 in
theorem again_any (s : ByteArray) (w : World) (hT : Tabs w) (hs : s.size ≤ 3000000) :
    Calls Tryz.prog 17 #[.string s] w fun e w' => e = .returned (.bool (Ag s.data.toList)) ∧ Below w.heap.size w w' := by
  have hp := fun w' (hb : Below w.heap.size w w') => plain_any s w' (hT.later hb) hs
  have hpl := plain_length s.data.toList
  obtain ⟨P, hP, hPl, hPs⟩ := arrS (plain s.data.toList)
  rw [← hP] at hp
  have hsl : s.data.toList.length = s.size := rfl
  have hr := fun w' => reduce_any P w' (by omega)
  rw [hPl] at hr
  have hb : Ag s.data.toList = (red (plain s.data.toList)).2 := rfl
  generalize red (plain s.data.toList) = R at hr hb
  obtain ⟨R1, R2⟩ := R
  obtain ⟨A, hA, hAl, hAs⟩ := arrS R1
  have hr' : ∀ w', Calls Tryz.prog 39 #[.string P] w' fun e w'' => e = .returned (.tuple #[.string A, .bool (Ag s.data.toList)]) ∧ Below w'.heap.size w' w'' := by
    intro w'; rw [hA, hb]; exact hr w'
  have HP := Lib.hid hp
  have HR := Lib.hid hr'
  clear hp hr hr' hP hPl hPs hA hAl hAs hb hpl hsl hT hs
  have tb := Below.refl w.heap.size w
  go_enter Tryz.func17, Tryz.ntmps17
  go_wp2_with (first
    | (go_at_call 40; (with_reducible refine (HP.out _ tb).mono ?_); rintro e w1 ⟨rfl, hb1⟩; have tb := tb.trans (hb1.mono tb.size))
    | (go_at_call 39; (with_reducible refine (HR.out _).mono ?_); rintro e w1 ⟨rfl, hb1⟩; have tb := tb.trans (hb1.mono tb.size)))
  go_ret
  exact ⟨rfl, tb⟩
end Go.Proofs.YtnclbbgdfaeilaaGreatDoor
