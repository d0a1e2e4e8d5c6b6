/- Walks: words: word, where all pieces stand. -/
import Derived.Test.YtafmldooephmaaaDoorWd2
namespace Go.Proofs.YtafmldooephmaaaDoor
open Go.RowKit Pk U8 Cs Wd

def fB : Value := .func (.func 38) #[] #[]
def fQ : Value := .func (.func 39) #[] #[]
def kvsW : List (ByteArray × Value) := [(⟨#[66]⟩, fB), (⟨#[98]⟩, fB), (⟨#[81]⟩, fQ), (⟨#[113]⟩, fQ)]
theorem get_how (c : UInt8) : mapGet ⟨#[c]⟩ .nilFunc kvsW = if c = 66 ∨ c = 98 then fB else if c = 81 ∨ c = 113 then fQ else .nilFunc := by
  have e : ∀ d : UInt8, ((⟨#[c]⟩ : ByteArray) == ⟨#[d]⟩) = decide (c = d) := fun d => by
    have := ba_beq [c] [d]
    simpa using this
  simp only [kvsW, mapGet, e, decide_eq_true_eq]
  by_cases h1 : c = 66
  · simp [h1]
  · by_cases h2 : c = 98
    · simp [h2]
    · by_cases h3 : c = 81
      · simp [h3]
      · by_cases h4 : c = 113
        · simp [h4]
        · simp [h1, h2, h3, h4]
structure WP (w W : World) (g r : Nat) (p0 p1 p2 p3 : ByteArray) (kvs : List (ByteArray × Value)) : Prop where
  map : mapIs W r kvs
  four : Four W g p0 p1 p2 p3
  bel : Below w.heap.size w W
  n : g < r
  hr : w.heap.size ≤ g
theorem WP.start {w W : World} {g : Nat} {p0 p1 p2 p3 : ByteArray} (h : Four W g p0 p1 p2 p3) (hb : Below w.heap.size w W) (hg : g < W.heap.size) (hr : w.heap.size ≤ g) : WP w (W.alloc (.map #[] 0)) g W.heap.size p0 p1 p2 p3 [] := by
  have ha : Below W.heap.size W (W.alloc (.map #[] 0)) := (Below.refl _ _).alloc (Nat.le_refl _) _
  exact ⟨mapIs_new W, h.below ha hg, hb.trans (ha.mono hb.size), hg, hr⟩
theorem four_grown {w w' : World} {r g : Nat} {p0 p1 p2 p3 : ByteArray} (h : Four w g p0 p1 p2 p3) (hg : w.grownBy w' (some r)) (hr : g ≠ r) (hb : g < w.heap.size) : Four w' g p0 p1 p2 p3 := by
  have e : ∀ j, w'.cell? ⟨g, j, none⟩ = w.cell? ⟨g, j, none⟩ := fun j => by
    unfold World.cell?
    have : w'.heap[g]? = w.heap[g]? := hg.block g hb (fun e => hr (by injection e))
    rw [this]
  exact ⟨(e 0).trans h.c0, (e 1).trans h.c1, (e 2).trans h.c2, (e 3).trans h.c3⟩
theorem WP.step {w W W' : World} {g r : Nat} {p0 p1 p2 p3 : ByteArray} {kvs kvs' : List (ByteArray × Value)} (h : WP w W g r p0 p1 p2 p3 kvs) (hm : mapIs W' r kvs') (hg : W.grownBy W' (some r)) : WP w W' g r p0 p1 p2 p3 kvs' := by
  have hl := mapIs_lt h.map
  have h1 := h.n
  have h2 := h.hr
  exact ⟨hm, four_grown h.four hg (by omega) (by omega), Below_map h.bel (by omega) hg h.bel.size, h.n, h.hr⟩
theorem eqNilW (w : World) : (binOp .eql 24 .nilFunc .nilFunc).run Tryd.prog w = .ok (.bool true) w := by kernel_rfl
theorem eqB (w : World) : (binOp .eql 24 (.func (.func 38) #[] #[]) .nilFunc).run Tryd.prog w = .ok (.bool false) w := by kernel_rfl
theorem eqQ (w : World) : (binOp .eql 24 (.func (.func 39) #[] #[]) .nilFunc).run Tryd.prog w = .ok (.bool false) w := by kernel_rfl
theorem conv_w (w : World) (s : ByteArray) : ∃ cp w2, (convert 9 29 (.string s)).run Tryd.prog w = .ok (.slice (some ⟨w.heap.size, 0, none⟩) s.size cp) w2 ∧ (∀ j (hj : j < s.size), w2.cell? ⟨w.heap.size, j, none⟩ = some (.int .u8 s[j].toNat)) ∧ Below w.heap.size w w2 ∧ w.heap.size < w2.heap.size := by
  obtain ⟨cp, w2, h1, h2, h3, h4⟩ := conv_row (P := Tryd.prog) w 9 29 5 s Tryd.underlying9 Tryd.underlying29 Tryd.underlying5
  exact ⟨cp, w2, h1, fun j hj => rowF_cell h2 j hj, h3, h4⟩
theorem ext_size (s : ByteArray) (n : Nat) (h : n ≤ s.size) : (s.extract 0 n).size = n := by rw [ByteArray.size_extract]; omega
set_option maxHeartbeats 4000000 in
set_option maxRecDepth 100000 in
theorem word_good (s R p0 p2 p3 : ByteArray) (c : UInt8) (w : World) (hw : Rdy w) (hs : s.size ≤ 3000000) (r : List UInt8) (hp : Lib.hasPrefix s.data.toList [61, 63] = true) (ht : Lib.trimPrefix s.data.toList [61, 63] = r) (hR : R = ⟨r.toArray⟩) (hl : R.size ≤ s.size)
    (h : Lib.splitB ⟨#[63]⟩ 0 (min 4 (R.size + 1) - 1) R = [p0, ⟨#[c]⟩, p2, p3]) (h3 : 3 ≤ R.size)
    (k0 : 0 < p0.size) (k3 : 0 < p3.size) (k4 : p3[0].toNat = 61) (hcb : decide (0 ≤ Lib.indexByte p0.data.toList 61) = false)
    (N : Nat) (hN : N = 7 + p0.size + p2.size) (hNs : N ≤ s.size)
    (hbad : ∀ j (hj : j < s.size), j < N → vis s[j] = false → frontT s.data.toList = ([], 0))
    (hgood : (∀ j (hj : j < s.size), j < N → vis s[j] = true) → frontT s.data.toList = if howOK c = true then (decCS p0.data.toList (readL c p2.data.toList), N) else ([], 0)) :
    Calls Tryd.prog 15 #[.string s] w (WordIs s w) := by
  obtain ⟨m, hm⟩ := hw.max
  have HC := Lib.hid (trimC s r w hp ht R hR)
  have HS := Lib.hid (split_four R w m hm (by omega) p0 ⟨#[c]⟩ p2 p3 h h3)
  have hK := fun w => Tryd.strings_Contains_one p0 61 w
  rw [hcb] at hK
  have HK := Lib.hid hK
  have HT := Lib.hid hw.tabs
  have HM := Lib.hid hm
  have e0 := strC_ne (S := p0) k0
  have e3 := strC_ne (S := p3) k3
  have d4 : ((p3[0].toNat : Int) != 61) = false := by simp; omega
  obtain ⟨x1, hx1⟩ : ∃ x : Int, IntKind.i64.wrap (2 + (p0.size : Int)) = x ∧ x = 2 + p0.size := ⟨_, rfl, w64 rfl (by omega) (by omega)⟩
  obtain ⟨x2, hx2⟩ : ∃ x : Int, IntKind.i64.wrap (x1 + 1) = x ∧ x = x1 + 1 := ⟨_, rfl, w64 rfl (by omega) (by omega)⟩
  obtain ⟨x3, hx3⟩ : ∃ x : Int, IntKind.i64.wrap (x2 + 1) = x ∧ x = x2 + 1 := ⟨_, rfl, w64 rfl (by omega) (by omega)⟩
  obtain ⟨x4, hx4⟩ : ∃ x : Int, IntKind.i64.wrap (x3 + 1) = x ∧ x = x3 + 1 := ⟨_, rfl, w64 rfl (by omega) (by omega)⟩
  obtain ⟨x5, hx5⟩ : ∃ x : Int, IntKind.i64.wrap (x4 + (p2.size : Int)) = x ∧ x = x4 + p2.size := ⟨_, rfl, w64 rfl (by omega) (by omega)⟩
  have hx6 : IntKind.i64.wrap (x5 + 2) = (N : Int) := w64 (by omega) (by omega) (by omega)
  have W1 := hx1.1; have W2 := hx2.1; have W3 := hx3.1; have W4 := hx4.1; have W5 := hx5.1
  have hp2 : p2.size ≤ 3000000 := by omega
  have hp0 : p0.size ≤ 3000000 := by omega
  have hNb : N ≤ 3000000 := by omega
  clear hx1 hx2 hx3 hx4 hx5 hp ht hR h hm hw hK hcb hN k4
  have HB := Lib.hid hbad
  have HG := Lib.hid hgood
  have HGH := Lib.hid (get_how c)
  clear hbad hgood
  go_enter Tryd.func15, Tryd.ntmps15
  go_wp2_with (first
    | (go_at_call 34; (with_reducible refine (HC.out).mono ?_); rintro e w1 ⟨rfl, hw1⟩; subst w1)
    | (go_at_call 35; (with_reducible refine (HS.out).mono ?_); rintro e w2 ⟨rfl, hF, hb2, hz2⟩; have c0 := hF.c0; have c1 := hF.c1; have c2 := hF.c2; have c3 := hF.c3; obtain ⟨cp, w3, hcv, hcells, hb3, hz3⟩ := conv_w w2.drew (s.extract 0 N); rw [ext_size s N hNs] at hcv)
    | (go_at_call 36; (with_reducible refine (HK.out _).mono ?_); rintro e w5 ⟨rfl, hw5⟩; subst w5))
  go_region
  go_wp2
  have hXs : (s.extract 0 N).size = N := by rw [ByteArray.size_extract]; omega
  have hXg : ∀ j (hj : j < (s.extract 0 N).size), (s.extract 0 N)[j] = s[j]'(by omega) := fun j hj => by
    rw [ByteArray.getElem_extract]; congr 1; omega
  have HCE : Hid (∀ j (hj : j < N), w3.cell? ⟨w2.heap.size, j, none⟩ = some (.int .u8 (s[j]'(by omega)).toNat)) := fun j hj => by
    rw [← hXg j (by omega)]; exact hcells j (by omega)
  have hF3 : Four w3 w.heap.size p0 ⟨#[c]⟩ p2 p3 := Four.below (w := w2.drew) ⟨hF.c0, hF.c1, hF.c2, hF.c3⟩ hb3 hz2
  have tb : Below w.heap.size w w3 := hb2.drew.trans (hb3.mono hb2.size)
  have hsz3 := tb.size
  have hgz : w.heap.size < w3.heap.size := Nat.lt_of_lt_of_le hz2 hb3.size
  clear hXg hcells hF c0 c1 c2 c3 hb2 hb3
  go_loopw [3, 73] (fun nv i wr => ∃ (k : Nat), nv = .int .i64 N ∧ i = .int .i64 k ∧ wr = w3 ∧ k ≤ N ∧ Hid (∀ j (hj : j < s.size), j < k → vis s[j] = true)) (fun _ i _ => N - (intOf i).toNat)
  case atStart => exact ⟨0, rfl, by first | rfl | trivial, rfl, by omega, fun j hj h => absurd h (by omega)⟩
  case round =>
    obtain ⟨k, rfl, rfl, rfl, hk, hrel⟩ := hrel
    by_cases hlt : k < N
    · have hks : k < s.size := by omega
      have hck := HCE.out k hlt
      have hSn := wseen_any (s[k]'hks)
      have hbk := HB.out k hks hlt
      have hstep : vis s[k] = true → Hid (∀ j (hj : j < s.size), j < k + 1 → vis s[j] = true) := fun hv j hj hlt2 => by
        by_cases e : j = k
        · subst e; exact hv
        · exact hrel.out j hj (by omega)
      generalize s[k]'hks = ck at hck hSn hbk hstep
      have HSN := Lib.hid hSn
      clear hSn
      cases hv : vis ck with
      | true =>
        have hd := hstep hv
        rw [hv] at HSN
        clear hstep hrel hbk hv
        go_wp2_with (go_at_call 37; (with_reducible refine (HSN.out _).mono ?_); rintro e w5 ⟨rfl, rfl⟩)
        go_roundw
        case rel => exact ⟨k + 1, rfl, by go_num, by first | rfl | trivial, by omega, hd⟩
        case measure => simp [intOf]; omega
      | false =>
        have hd : Hid (frontT s.data.toList = ([], 0)) := hbk hv
        rw [hv] at HSN
        clear hstep hrel hbk hv
        go_wp2_with (go_at_call 37; (with_reducible refine (HSN.out _).mono ?_); rintro e w5 ⟨rfl, rfl⟩)
        go_ret2
        unfold WordIs
        rw [hd.out]
        exact ⟨rfl, tb⟩
    · obtain rfl : k = N := by omega
      have hfin := HG.out fun j hj hlt2 => hrel.out j hj hlt2
      have hp := WP.start hF3 tb hgz (Nat.le_refl _)
      have hmm := @run_makeMap Tryd.prog
      have q0 := eqNilW
      have q1 := eqB
      have q2 := eqQ
      have HZ := Lib.hid zeroF
      have hU64 := Lib.hid fun w' (hb : Below w.heap.size w w') => unB64P_any p2 w' m (by omega) (cell_later hb HM.out)
      have hUQ := Lib.hid fun w' (hb : Below w.heap.size w w') => unQP_any p2 w' m (by omega) (cell_later hb HM.out)
      have hGH := HGH.out
      clear hrel HB HG HCE hF3 tb HS HC HK e0 e3 d4 W1 W2 W3 W4 W5 hx6 HM
      by_cases h64 : c = 66 ∨ c = 98
      · have hh : howOK c = true := by rcases h64 with rfl | rfl <;> rfl
        rw [if_pos h64] at hGH
        unfold fB at hGH
        have hG : Hid (mapGet ⟨#[c]⟩ .nilFunc kvsW = .func (.func 38) #[] #[]) := hGH
        rw [if_pos hh] at hfin
        have hrd : readL c p2.data.toList = C6.unB64R p2.data.toList := by unfold readL; rw [if_pos h64]
        rw [hrd] at hfin
        obtain ⟨B, hB, hBl, hBs⟩ := arr_ex (C6.unB64R p2.data.toList)
        have hBn : B.size ≤ 3000000 := by
          have h1 := duR_length (C6.dR p2.data.toList)
          have h2 := C6.dR_length p2.data.toList
          have h3 : p2.data.toList.length = p2.size := rfl
          unfold C6.unB64R at hBs
          omega
        rw [← hBl] at hfin
        have hU := hU64.out
        rw [← hB] at hU
        have HU := Lib.hid hU
        have HD := Lib.hid fun w' (hb : Below w.heap.size w w') => decodeP_any p0 B w' (HT.out.later hb) hp0 hBn
        have HF := Lib.hid hfin
        clear hfin hrd hU hB hBl hBs hGH hU64 hUQ HGH h64
        go_wp2_with (first
          | (refine wpList_insert_map _ rfl (.tmp 81) _ _ _ rfl _ _ Tryd.underlying50 Tryd.underlying9 _ _ rfl hp.map _ rfl (by kernel_rfl) ?_; intro w4 hm4 hg4; have hp := hp.step hm4 hg4; have c0 := hp.four.c0; have c1 := hp.four.c1; have c2 := hp.four.c2; clear hm4 hg4))
        have hlk : (Instr.lookup 50 (.map (some wr.heap.size)) (.string ⟨#[c]⟩) false).run Tryd.prog _ = .ok _ _ := (run_lookup_map (P := Tryd.prog) hp.map Tryd.underlying50 Tryd.underlying9 ⟨#[c]⟩ .nilFunc (HZ.out _)).trans (congrArg (fun v => Result.ok v _) hG.out)
        rw [hlk]
        go_wp2
        have hbd := hp.bel.drew
        go_region_with (first
          | (go_at_call 38; (with_reducible refine (HU.out _ hbd).mono ?_); rintro e w5 ⟨rfl, hb5⟩; have c0' := cell_later hb5 c0; have tb5 := hbd.trans (hb5.mono hbd.size))
          | (go_at_call 40; (with_reducible refine (HD.out _ tb5).mono ?_); rintro e w6 ⟨⟨b, rfl⟩, hb6⟩; have tb6 := tb5.trans (hb6.mono tb5.size)))
        all_goals
          go_wp2
          go_ret2
          unfold WordIs
          rw [HF.out]
          exact ⟨rfl, tb6⟩
      · by_cases hq : c = 81 ∨ c = 113
        · have hh : howOK c = true := by rcases hq with rfl | rfl <;> rfl
          rw [if_neg h64, if_pos hq] at hGH
          unfold fQ at hGH
          have hG : Hid (mapGet ⟨#[c]⟩ .nilFunc kvsW = .func (.func 39) #[] #[]) := hGH
          rw [if_pos hh] at hfin
          have hrd : readL c p2.data.toList = C6.unQR p2.data.toList := by unfold readL; rw [if_neg h64]
          rw [hrd] at hfin
          obtain ⟨B, hB, hBl, hBs⟩ := arr_ex (C6.unQR p2.data.toList)
          have hBn : B.size ≤ 3000000 := by
            have h1 := C6.escR_length (C6.unblank p2.data.toList)
            have h2 : (C6.unblank p2.data.toList).length = p2.data.toList.length := by unfold C6.unblank; simp
            have h3 : p2.data.toList.length = p2.size := rfl
            unfold C6.unQR at hBs
            omega
          rw [← hBl] at hfin
          have hU := hUQ.out
          rw [← hB] at hU
          have HU := Lib.hid hU
          have HD := Lib.hid fun w' (hb : Below w.heap.size w w') => decodeP_any p0 B w' (HT.out.later hb) hp0 hBn
          have HF := Lib.hid hfin
          clear hfin hrd hU hB hBl hBs hGH hU64 hUQ HGH h64 hq
          go_wp2_with (first
            | (refine wpList_insert_map _ rfl (.tmp 81) _ _ _ rfl _ _ Tryd.underlying50 Tryd.underlying9 _ _ rfl hp.map _ rfl (by kernel_rfl) ?_; intro w4 hm4 hg4; have hp := hp.step hm4 hg4; have c0 := hp.four.c0; have c1 := hp.four.c1; have c2 := hp.four.c2; clear hm4 hg4))
          have hlk : (Instr.lookup 50 (.map (some wr.heap.size)) (.string ⟨#[c]⟩) false).run Tryd.prog _ = .ok _ _ := (run_lookup_map (P := Tryd.prog) hp.map Tryd.underlying50 Tryd.underlying9 ⟨#[c]⟩ .nilFunc (HZ.out _)).trans (congrArg (fun v => Result.ok v _) hG.out)
          rw [hlk]
          go_wp2
          have hbd := hp.bel.drew
          go_region_with (first
            | (go_at_call 39; (with_reducible refine (HU.out _ hbd).mono ?_); rintro e w5 ⟨rfl, hb5⟩; have c0' := cell_later hb5 c0; have tb5 := hbd.trans (hb5.mono hbd.size))
            | (go_at_call 40; (with_reducible refine (HD.out _ tb5).mono ?_); rintro e w6 ⟨⟨b, rfl⟩, hb6⟩; have tb6 := tb5.trans (hb6.mono tb5.size)))
          all_goals
            go_wp2
            go_ret2
            unfold WordIs
            rw [HF.out]
            exact ⟨rfl, tb6⟩
        · have hh : howOK c = false := by
            cases he : howOK c with
            | false => rfl
            | true =>
              rcases howOK_cases he with rfl | rfl | rfl | rfl
              · exact absurd (.inl rfl) h64
              · exact absurd (.inr rfl) h64
              · exact absurd (.inl rfl) hq
              · exact absurd (.inr rfl) hq
          rw [if_neg h64, if_neg hq] at hGH
          have hG : Hid (mapGet ⟨#[c]⟩ .nilFunc kvsW = .nilFunc) := hGH
          rw [hh, if_neg (by decide)] at hfin
          have HF := Lib.hid hfin
          clear hfin hGH hU64 hUQ HGH h64 hq hh
          go_wp2_with (first
            | (refine wpList_insert_map _ rfl (.tmp 81) _ _ _ rfl _ _ Tryd.underlying50 Tryd.underlying9 _ _ rfl hp.map _ rfl (by kernel_rfl) ?_; intro w4 hm4 hg4; have hp := hp.step hm4 hg4; have c0 := hp.four.c0; have c1 := hp.four.c1; have c2 := hp.four.c2; clear hm4 hg4))
          have hlk : (Instr.lookup 50 (.map (some wr.heap.size)) (.string ⟨#[c]⟩) false).run Tryd.prog _ = .ok _ _ := (run_lookup_map (P := Tryd.prog) hp.map Tryd.underlying50 Tryd.underlying9 ⟨#[c]⟩ .nilFunc (HZ.out _)).trans (congrArg (fun v => Result.ok v _) hG.out)
          rw [hlk]
          go_wp2
          go_ret2
          unfold WordIs
          rw [HF.out]
          exact ⟨rfl, hp.bel⟩
end Go.Proofs.YtafmldooephmaaaDoor
