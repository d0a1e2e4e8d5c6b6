/- Walks: words: word, whole. -/
import Derived.Test.YtafmldooephmaaaDoorWd3
import Derived.Test.YtafmldooephmaaaDoorSubP2
namespace Go.Proofs.YtafmldooephmaaaDoor
open Go.RowKit Pk U8 Cs Wd

theorem ib_mem {d : UInt8} : ∀ l : List UInt8, 0 ≤ Lib.indexByte l d → d ∈ l
  | [], h => by simp [Lib.indexByte] at h
  | c :: r, h => by
    rw [Su.ib_cons] at h
    split at h
    · rename_i e; simp [e]
    · split at h
      · omega
      · have := ib_mem (d := d) r (by omega)
        simp [this]
theorem mem_ib {d : UInt8} : ∀ l : List UInt8, d ∈ l → 0 ≤ Lib.indexByte l d
  | [], h => by cases h
  | c :: r, h => by
    rw [Su.ib_cons]
    split
    · omega
    · rename_i hne
      have h2 : d ∈ r := by
        rcases List.mem_cons.1 h with e | h
        · exact absurd e.symm hne
        · exact h
      have := mem_ib r h2
      rw [if_neg (by omega)]
      omega
theorem one_byte {p : ByteArray} (h : p.size = 1) : ∃ c, p = ⟨#[c]⟩ := by
  obtain ⟨⟨l⟩⟩ := p
  match l, h with
  | [c], _ => exact ⟨c, rfl⟩
set_option maxRecDepth 100000 in
theorem word_any (s : ByteArray) (w : World) (hw : Rdy w) (hs : s.size ≤ 3000000) : Calls Tryd.prog 15 #[.string s] w (WordIs s w) := by
  rcases cutp s.data.toList with ⟨hp, r, hr, ht⟩ | hno
  · obtain ⟨R, hR, hRl, hRs⟩ := arr_ex r
    have hl : s.data.toList.length = s.size := rfl
    have hl2 : s.size = R.size + 2 := by rw [← hl, hr, hRs]; simp
    have hr' : s.data.toList = 61 :: 63 :: R.data.toList := by rw [hRl]; exact hr
    rcases pieces R with ⟨h1, h2⟩ | ⟨p0, p1, p2, p3, hsp, hparts, h3⟩
    · exact word_few s R w hw hs r hp ht hR (by omega) hr' h1 h2
    · by_cases hx : p0.size = 0 ∨ p1.size ≠ 1 ∨ p3.size = 0 ∨ (∃ h : 0 < p3.size, p3[0].toNat ≠ 61) ∨ 0 ≤ Lib.indexByte p0.data.toList 61
      · refine word_bad s R p0 p1 p2 p3 w hw hs r hp ht hR (by omega) hsp h3 ?_ hx
        rw [hr']
        cases hf : frontS (61 :: 63 :: R.data.toList) with
        | none => rfl
        | some q =>
          obtain ⟨cs, how, tx⟩ := q
          obtain ⟨e0, e1, e2, ⟨z, e3⟩, hne, hcs, hh, htx⟩ := front_parts hparts hf
          exfalso
          have l0 : p0.data.toList.length = p0.size := rfl
          have l1 : p1.data.toList.length = p1.size := rfl
          have l3 : p3.data.toList.length = p3.size := rfl
          rcases hx with hx | hx | hx | ⟨hlt, hx⟩ | hx
          · rw [hx] at l0
            exact hne (e0 ▸ List.eq_nil_of_length_eq_zero l0)
          · rw [e1] at l1
            exact hx l1.symm
          · rw [e3, hx] at l3
            simp at l3
          · have : p3[0] = 61 := by
              have h1 : p3.data.toList[0]? = some p3[0] := by
                rw [List.getElem?_eq_getElem (by omega)]; rfl
              rw [e3] at h1
              simpa using h1.symm
            rw [this] at hx
            exact hx rfl
          · have := ib_mem _ hx
            rw [e0] at this
            exact (csC_ne (hcs _ this)).2.1 rfl
      · have k1 : p1.size = 1 := by
          by_cases h : p1.size = 1
          · exact h
          · exact absurd (.inr (.inl h)) hx
        obtain ⟨c, rfl⟩ := one_byte k1
        have k0 : 0 < p0.size := by
          by_cases h : p0.size = 0
          · exact absurd (.inl h) hx
          · omega
        have k3 : 0 < p3.size := by
          by_cases h : p3.size = 0
          · exact absurd (.inr (.inr (.inl h))) hx
          · omega
        have k4 : p3[0].toNat = 61 := by
          by_cases h : p3[0].toNat = 61
          · exact h
          · exact absurd (.inr (.inr (.inr (.inl ⟨k3, h⟩)))) hx
        have k5 : ¬ 0 ≤ Lib.indexByte p0.data.toList 61 := fun h => hx (.inr (.inr (.inr (.inr h))))
        have l0 : p0.data.toList.length = p0.size := rfl
        have l2 : p2.data.toList.length = p2.size := rfl
        have l3 : p3.data.toList.length = p3.size := rfl
        have hpb : Parts R.data.toList p0.data.toList [c] p2.data.toList p3.data.toList := hparts
        have hlen := congrArg List.length hpb.eq
        simp only [List.length_append, List.length_cons, List.length_nil, l0, l2, l3, hRl] at hlen
        have hp3 : p3.data.toList = 61 :: p3.data.toList.drop 1 := by
          have h1 : p3.data.toList[0]? = some p3[0] := by rw [List.getElem?_eq_getElem (by omega)]; rfl
          have h2 : p3[0] = 61 := UInt8.toNat_inj.1 k4
          cases hq : p3.data.toList with
          | nil => rw [hq] at l3; simp at l3; omega
          | cons a t =>
            rw [hq] at h1
            simp at h1
            rw [h1, h2]; rfl
        have hpa : Parts R.data.toList p0.data.toList [c] p2.data.toList (61 :: p3.data.toList.drop 1) := by
          rw [← hp3]; exact hparts
        refine word_good s R p0 p2 p3 c w hw hs r hp ht hR (by omega) hsp h3 k0 k3 k4 (decide_eq_false k5) (7 + p0.size + p2.size) rfl (by omega) ?_ ?_
        · intro j hj hjN hv
          rw [hr']
          refine frontT_none ?_
          cases hf : frontS (61 :: 63 :: R.data.toList) with
          | none => rfl
          | some q =>
            obtain ⟨cs, how, tx⟩ := q
            obtain ⟨e0, e1, e2, ⟨z, e3⟩, hne, hcs, hh, htx⟩ := front_parts hparts hf
            obtain ⟨z2, hw2⟩ := front_word hf
            have hvv := word_vis hw2 s[j] (by
              rw [← e0, ← e2, l0, l2, ← hr']
              refine List.mem_iff_getElem.2 ⟨j, ?_, ?_⟩
              · rw [List.length_take]; omega
              · rw [List.getElem_take]; rfl)
            rw [hvv] at hv; cases hv
        · intro hall
          have hv : ∀ d ∈ (61 :: 63 :: R.data.toList : List UInt8).take (7 + p0.data.toList.length + p2.data.toList.length), vis d = true := by
            intro d hd
            rw [← hr', l0, l2] at hd
            obtain ⟨j, hj, rfl⟩ := List.mem_iff_getElem.1 hd
            rw [List.length_take] at hj
            rw [List.getElem_take]
            exact hall j (by omega) (by omega)
          rw [hr']
          by_cases hh : howOK c = true
          · rw [if_pos hh, frontT_some (front_ok hpa (fun e => by rw [e] at l0; simp at l0; omega) (fun hm => k5 (mem_ib _ hm)) hh hv), l0, l2]
          · rw [if_neg hh]
            refine frontT_none ?_
            cases hf : frontS (61 :: 63 :: R.data.toList) with
            | none => rfl
            | some q =>
              obtain ⟨cs, how, tx⟩ := q
              obtain ⟨e0, e1, e2, ⟨z, e3⟩, hne, hcs, hho, htx⟩ := front_parts hpa hf
              injection e1 with e1
              rw [← e1] at hho
              exact absurd hho hh
  · exact word_no s w hno
end Go.Proofs.YtafmldooephmaaaDoor
