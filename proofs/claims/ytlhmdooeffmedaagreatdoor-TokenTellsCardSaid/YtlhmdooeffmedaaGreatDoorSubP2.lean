/- Plain: what the program's small functions compute. -/
import Derived.Test.YtlhmdooeffmedaaGreatDoorSubP
import Derived.Lib.Bytealg
import Derived.Lib.Strings
namespace Su
open Go Pk U8

def stP (m l : List UInt8) : List UInt8 × Bool := match st m l with
  | some t => (t, true)
  | none => (l, false)
def blobP (l : List UInt8) : List UInt8 × Bool := match blob l with
  | some t => (t, true)
  | none => (l, false)
def endP (l : List UInt8) : List UInt8 × Bool := if trimR l ≠ l then (trimR l, false) else if endsF l = true then (l.take (l.length - 5), true) else (l, false)
def answerP (l : List UInt8) : List UInt8 × Bool := match answer l with
  | some t => (t, true)
  | none => (l, false)
def markP (l : List UInt8) : List UInt8 × Bool := match blob l with
  | some t => if free t ≠ [] then (t, false) else (l, false)
  | none => (l, false)
def wrapP (l : List UInt8) : List UInt8 × Bool := match wrap l with
  | some t => (t, true)
  | none => (l, false)
theorem ib_cons (c d : UInt8) (r : List UInt8) : Lib.indexByte (c :: r) d = if c = d then 0 else if Lib.indexByte r d = -1 then -1 else Lib.indexByte r d + 1 := by
  conv => lhs; unfold Lib.indexByte
  by_cases h : c = d
  · rw [if_pos h, if_pos (by simpa using h)]
  · rw [if_neg h, if_neg (by simpa using h)]
    by_cases h2 : Lib.indexByte r d = -1
    · rw [if_pos h2, if_pos (by simpa using h2)]
    · rw [if_neg h2, if_neg (by simpa using h2)]
theorem ib_lt : ∀ (l : List UInt8) (d : UInt8) (j : Nat), Lib.indexByte l d = j → j < l.length
  | [], d, j, h => by rw [show Lib.indexByte [] d = -1 from rfl] at h; omega
  | c :: r, d, j, h => by
    rw [ib_cons] at h
    rw [List.length_cons]
    split at h
    · omega
    · split at h
      · omega
      · have hg := Lib.indexByte_ge r d
        have := ib_lt r d (j - 1) (by omega)
        omega
theorem blobIn_ix : ∀ r : List UInt8, (Lib.indexByte r 93 = -1 → blobIn r = none) ∧ ∀ j : Nat, Lib.indexByte r 93 = j → (0 ≤ Lib.indexByte (r.take j) 91 → blobIn r = none) ∧ (Lib.indexByte (r.take j) 91 < 0 → blobIn r = some (free (r.drop (j + 1))))
  | [] => ⟨fun _ => rfl, fun j h => by rw [show Lib.indexByte [] 93 = -1 from rfl] at h; omega⟩
  | c :: r => by
    have ih := blobIn_ix r
    have hg := Lib.indexByte_ge r 93
    have e : blobIn (c :: r) = if c = 93 then some (free r) else if c = 91 then none else blobIn r := rfl
    rw [ib_cons, e]
    by_cases h93 : c = 93
    · rw [if_pos h93, if_pos h93]
      refine ⟨fun h => by omega, fun j hj => ?_⟩
      obtain rfl : j = 0 := by omega
      exact ⟨fun h => by rw [List.take_zero, show Lib.indexByte [] 91 = -1 from rfl] at h; omega, fun _ => rfl⟩
    · rw [if_neg h93, if_neg h93]
      constructor
      · intro h
        split at h
        · rename_i h'
          rw [ih.1 h']; split <;> rfl
        · omega
      · intro j hj
        split at hj
        · omega
        · obtain ⟨k, rfl⟩ : ∃ k, j = k + 1 := ⟨j - 1, by omega⟩
          have hk := ih.2 k (by omega)
          rw [List.take_succ_cons, ib_cons, List.drop_succ_cons]
          have hg2 := Lib.indexByte_ge (r.take k) 91
          by_cases h91 : c = 91
          · rw [if_pos h91, if_pos h91]
            exact ⟨fun _ => rfl, fun h => by omega⟩
          · rw [if_neg h91, if_neg h91]
            split
            · rename_i h'
              exact ⟨fun h => by omega, fun _ => hk.2 (by omega)⟩
            · exact ⟨fun _ => hk.1 (by omega), fun h => by omega⟩
theorem ext_listS (x : ByteArray) (i j : Nat) : (x.extract i j).data.toList = (x.data.toList.drop i).take (j - i) := by rw [← Lib.extract_toList, Lib.toList_data]
theorem blob_facts (s : ByteArray) : (Lib.indexByte s.data.toList 93 < 1 ∧ blob s.data.toList = none) ∨
    (∃ (J : Nat) (h : J + 1 < s.size), Lib.indexByte s.data.toList 93 = ((J + 1 : Nat) : Int) ∧ ((s[0] ≠ 91 ∧ blob s.data.toList = none) ∨ (s[0] = 91 ∧ 0 ≤ Lib.indexByte (s.extract 1 (J + 1)).data.toList 91 ∧ blob s.data.toList = none) ∨
      (s[0] = 91 ∧ Lib.indexByte (s.extract 1 (J + 1)).data.toList 91 < 0 ∧ blob s.data.toList = some (free (s.data.toList.drop (J + 2)))))) := by
  have hg := Lib.indexByte_ge s.data.toList 93
  by_cases h0 : 0 < s.size
  · have hl : s.data.toList = s[0] :: tl s 1 := by rw [← tl_zero, tl_cons s 0 h0]
    have hb : blob s.data.toList = if s[0] = 91 then blobIn (tl s 1) else none := by rw [hl]; rfl
    by_cases hi : Lib.indexByte s.data.toList 93 < 1
    · left
      refine ⟨hi, ?_⟩
      rw [hb]
      split
      · rename_i h91
        rw [hl, ib_cons, h91] at hi
        rw [if_neg (by decide)] at hi
        have hg2 := Lib.indexByte_ge (tl s 1) 93
        split at hi
        · rename_i h'; exact (blobIn_ix (tl s 1)).1 h'
        · omega
      · rfl
    · right
      obtain ⟨J, hJ⟩ : ∃ J : Nat, Lib.indexByte s.data.toList 93 = ((J + 1 : Nat) : Int) := ⟨(Lib.indexByte s.data.toList 93 - 1).toNat, by omega⟩
      have hlt : J + 1 < s.size := ib_lt _ _ _ hJ
      refine ⟨J, hlt, hJ, ?_⟩
      by_cases h91 : s[0] = 91
      · right
        rw [hb, if_pos h91]
        have hj : Lib.indexByte (tl s 1) 93 = J := by
          rw [hl, ib_cons, h91, if_neg (by decide)] at hJ
          split at hJ <;> omega
        have hk := (blobIn_ix (tl s 1)).2 J hj
        have e1 : (s.extract 1 (J + 1)).data.toList = (tl s 1).take J := by rw [ext_listS]; rfl
        have e2 : s.data.toList.drop (J + 2) = (tl s 1).drop (J + 1) := by unfold tl; rw [List.drop_drop]; congr 1; omega
        rw [e1, e2]
        by_cases hp : 0 ≤ Lib.indexByte ((tl s 1).take J) 91
        · exact .inl ⟨h91, hp, hk.1 hp⟩
        · exact .inr ⟨h91, by omega, hk.2 (by omega)⟩
      · left
        exact ⟨h91, by rw [hb, if_neg h91]⟩
  · left
    have : s.data.toList = [] := List.eq_nil_of_length_eq_zero (by show s.size = 0; omega)
    rw [this]; exact ⟨by decide, rfl⟩
end Su
