/- Walks: charset: Decode. -/
import Derived.Test.YtafmldooephmaaaDoorCsR
import Derived.OwnWalk
namespace Go.Proofs.YtafmldooephmaaaDoor
open Go.RowKit Pk U8 Cs

def DecIs (l : List UInt8) (w : World) (e : Ending) (w' : World) : Prop := (∃ b, e = .returned (.tuple #[.string ⟨l.toArray⟩, .bool b])) ∧ Below w.heap.size w w'
theorem zeroF (w : World) : (zeroValue 24).run Tryd.prog w = .ok .nilFunc w := by kernel_rfl
theorem byteF1 (s : ByteArray) (b : Nat) (w : World) (hc : w.cell? ⟨b, 0, none⟩ = some (.func (.func 84) #[] #[])) (hs : s.size ≤ 3000000) : Calls Tryd.prog 86 #[.string s, .pointer (some ⟨b, 0, none⟩)] w fun e w' => e = .returned (.string ⟨(decB asc s.data.toList).toArray⟩) ∧ Below w.heap.size w w' := byteA s _ w hc hs
theorem eqNil (w : World) : (binOp .eql 24 .nilFunc .nilFunc).run Tryd.prog w = .ok (.bool true) w := by kernel_rfl
theorem eqClos (b : Nat) (w : World) : (binOp .eql 24 (.func (.func 86) #[] #[.pointer (some ⟨b, 0, none⟩)]) .nilFunc).run Tryd.prog w = .ok (.bool false) w := by kernel_rfl
theorem eqRep (w : World) : (binOp .eql 24 (.func (.func 13) #[] #[]) .nilFunc).run Tryd.prog w = .ok (.bool false) w := by kernel_rfl
set_option maxHeartbeats 4000000 in
set_option maxRecDepth 100000 in
theorem decodeP_any (name s : ByteArray) (w : World) (hT : Tabs w) (hn : name.size ≤ 3000000) (hs : s.size ≤ 3000000) : Calls Tryd.prog 40 #[.string name, .string s] w (DecIs (decCS name.data.toList s.data.toList) w) := by
  have hsm := fun w => smallP_any name w hn
  have hg := get_kind name.data.toList
  obtain ⟨N, hN⟩ : ∃ N : ByteArray, N = ⟨(name.data.toList.map Su.lowc).toArray⟩ := ⟨_, rfl⟩
  rw [← hN] at hsm hg
  have hrp := fun w' (hb : Below w.heap.size w w') => repairP_any s w' (hT.later hb) (by omega)
  have hA := fun w' b hc => byteA s ⟨b, 0, none⟩ w' hc hs
  have hL := fun w' b hc => byteL s ⟨b, 0, none⟩ w' hc hs
  have hW := fun w' b hc => byteW s ⟨b, 0, none⟩ w' hc hs
  have hk := kindL_le name.data.toList
  have hz := zeroF
  have hq0 := eqNil
  have hq1 := eqClos
  have hq2 := eqRep
  unfold decCS
  obtain ⟨k, hkk⟩ : ∃ k, k = kindL name.data.toList := ⟨_, rfl⟩
  rw [← hkk] at hk hg ⊢
  have HS := Lib.hid hsm
  have HG := Lib.hid hg
  have HRP := Lib.hid hrp
  have HA := Lib.hid hA
  have HL := Lib.hid hL
  have HW := Lib.hid hW
  have HZ := Lib.hid hz
  have tb := Below.refl w.heap.size w
  clear hsm hg hrp hA hL hW hz hN hkk hT
  have HB := Lib.hid (fun (fn : Nat) (w : World) => bytewise_any fn w)
  unfold closV at HB
  rcases (show k = 0 ∨ k = 1 ∨ k = 2 ∨ k = 3 ∨ k = 4 by omega) with rfl | rfl | rfl | rfl | rfl
  · have hG : Hid (∀ b1 b2 b3, mapGet N .nilFunc (kvsR b1 b2 b3) = .nilFunc) := fun b1 b2 b3 => HG.out b1 b2 b3
    have hd : Hid (decK 0 s.data.toList = decB win s.data.toList) := rfl
    rw [hd.out]
    clear HG hd
    go_enter Tryd.func40, Tryd.ntmps40
    go_wp2_with (first
      | (go_at_call 65; (with_reducible refine (readers_any _).mono ?_); rintro e w1 ⟨r, b1, b2, b3, rfl, hr⟩; have tb := hr.bel)
      | (go_at_call 66; (with_reducible refine (HS.out _).mono ?_); rintro e w2 ⟨rfl, hb2⟩; have tb := tb.trans (hb2.mono tb.size); have hmp := mapIs_below hr.map hb2 (mapIs_lt hr.map); have hcc := cell_later hb2 hr.c1)
      | (refine wpList_lookup_map _ rfl (.tmp 7) (.tmp 9) _ rfl _ _ Tryd.underlying50 Tryd.underlying9 _ _ rfl hmp _ rfl _ (HZ.out _) ?_; rw [hG.out])
      | (go_at_call 67; (with_reducible refine (HB.out 68 _).mono ?_); rintro e w3 ⟨rfl, hc3, hb3, hz3⟩; have tb := tb.trans (hb3.mono tb.size))
      | (go_at_call 86; (with_reducible refine (HW.out _ _ hc3).mono ?_); rintro e w4 ⟨rfl, hb4⟩; have tb := tb.trans (hb4.mono tb.size)))
    go_ret2
    exact ⟨⟨_, rfl⟩, tb⟩
  · have hG : Hid (∀ b1 b2 b3, mapGet N .nilFunc (kvsR b1 b2 b3) = .func (.func 86) #[] #[.pointer (some ⟨b1, 0, none⟩)]) := fun b1 b2 b3 => HG.out b1 b2 b3
    have hd : Hid (decK 1 s.data.toList = decB asc s.data.toList) := rfl
    rw [hd.out]
    clear HG hd
    go_enter Tryd.func40, Tryd.ntmps40
    go_wp2_with (first
      | (go_at_call 65; (with_reducible refine (readers_any _).mono ?_); rintro e w1 ⟨r, b1, b2, b3, rfl, hr⟩; have tb := hr.bel)
      | (go_at_call 66; (with_reducible refine (HS.out _).mono ?_); rintro e w2 ⟨rfl, hb2⟩; have tb := tb.trans (hb2.mono tb.size); have hmp := mapIs_below hr.map hb2 (mapIs_lt hr.map); have hcc := cell_later hb2 hr.c1)
      | (refine wpList_lookup_map _ rfl (.tmp 7) (.tmp 9) _ rfl _ _ Tryd.underlying50 Tryd.underlying9 _ _ rfl hmp _ rfl _ (HZ.out _) ?_; rw [hG.out])
      | (go_at_call 86; (with_reducible refine (HA.out _ _ hcc).mono ?_); rintro e w4 ⟨rfl, hb4⟩; have tb := tb.trans (hb4.mono tb.size)))
    go_ret2
    exact ⟨⟨_, rfl⟩, tb⟩
  · have hG : Hid (∀ b1 b2 b3, mapGet N .nilFunc (kvsR b1 b2 b3) = .func (.func 13) #[] #[]) := fun b1 b2 b3 => HG.out b1 b2 b3
    have hd : Hid (decK 2 s.data.toList = repairL s.data.toList) := rfl
    rw [hd.out]
    clear HG hd
    go_enter Tryd.func40, Tryd.ntmps40
    go_wp2_with (first
      | (go_at_call 65; (with_reducible refine (readers_any _).mono ?_); rintro e w1 ⟨r, b1, b2, b3, rfl, hr⟩; have tb := hr.bel)
      | (go_at_call 66; (with_reducible refine (HS.out _).mono ?_); rintro e w2 ⟨rfl, hb2⟩; have tb := tb.trans (hb2.mono tb.size); have hmp := mapIs_below hr.map hb2 (mapIs_lt hr.map); have hcc := cell_later hb2 hr.c1)
      | (refine wpList_lookup_map _ rfl (.tmp 7) (.tmp 9) _ rfl _ _ Tryd.underlying50 Tryd.underlying9 _ _ rfl hmp _ rfl _ (HZ.out _) ?_; rw [hG.out])
      | (go_at_call 13; (with_reducible refine (HRP.out _ tb).mono ?_); rintro e w4 ⟨rfl, hb4⟩; have tb := tb.trans (hb4.mono tb.size)))
    go_ret2
    exact ⟨⟨_, rfl⟩, tb⟩
  · have hG : Hid (∀ b1 b2 b3, mapGet N .nilFunc (kvsR b1 b2 b3) = .func (.func 86) #[] #[.pointer (some ⟨b2, 0, none⟩)]) := fun b1 b2 b3 => HG.out b1 b2 b3
    have hd : Hid (decK 3 s.data.toList = decB lat s.data.toList) := rfl
    rw [hd.out]
    clear HG hd
    go_enter Tryd.func40, Tryd.ntmps40
    go_wp2_with (first
      | (go_at_call 65; (with_reducible refine (readers_any _).mono ?_); rintro e w1 ⟨r, b1, b2, b3, rfl, hr⟩; have tb := hr.bel)
      | (go_at_call 66; (with_reducible refine (HS.out _).mono ?_); rintro e w2 ⟨rfl, hb2⟩; have tb := tb.trans (hb2.mono tb.size); have hmp := mapIs_below hr.map hb2 (mapIs_lt hr.map); have hcc := cell_later hb2 hr.c2)
      | (refine wpList_lookup_map _ rfl (.tmp 7) (.tmp 9) _ rfl _ _ Tryd.underlying50 Tryd.underlying9 _ _ rfl hmp _ rfl _ (HZ.out _) ?_; rw [hG.out])
      | (go_at_call 86; (with_reducible refine (HL.out _ _ hcc).mono ?_); rintro e w4 ⟨rfl, hb4⟩; have tb := tb.trans (hb4.mono tb.size)))
    go_ret2
    exact ⟨⟨_, rfl⟩, tb⟩
  · have hG : Hid (∀ b1 b2 b3, mapGet N .nilFunc (kvsR b1 b2 b3) = .func (.func 86) #[] #[.pointer (some ⟨b3, 0, none⟩)]) := fun b1 b2 b3 => HG.out b1 b2 b3
    have hd : Hid (decK 4 s.data.toList = decB win s.data.toList) := rfl
    rw [hd.out]
    clear HG hd
    go_enter Tryd.func40, Tryd.ntmps40
    go_wp2_with (first
      | (go_at_call 65; (with_reducible refine (readers_any _).mono ?_); rintro e w1 ⟨r, b1, b2, b3, rfl, hr⟩; have tb := hr.bel)
      | (go_at_call 66; (with_reducible refine (HS.out _).mono ?_); rintro e w2 ⟨rfl, hb2⟩; have tb := tb.trans (hb2.mono tb.size); have hmp := mapIs_below hr.map hb2 (mapIs_lt hr.map); have hcc := cell_later hb2 hr.c3)
      | (refine wpList_lookup_map _ rfl (.tmp 7) (.tmp 9) _ rfl _ _ Tryd.underlying50 Tryd.underlying9 _ _ rfl hmp _ rfl _ (HZ.out _) ?_; rw [hG.out])
      | (go_at_call 86; (with_reducible refine (HW.out _ _ hcc).mono ?_); rintro e w4 ⟨rfl, hb4⟩; have tb := tb.trans (hb4.mono tb.size)))
    go_ret2
    exact ⟨⟨_, rfl⟩, tb⟩
end Go.Proofs.YtafmldooephmaaaDoor
