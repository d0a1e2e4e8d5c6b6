/- Plain: what a match of a pattern means. -/
import Derived.Test.YtlbnhkojfefccaaDoorFdP
namespace Go.Proofs.YtlbnhkojfefccaaDoor
open Go.RowKit Lib Pk U8 Su Fo

/-- the elements m match the units us; out is what the wildcards took -/
inductive Mat (comp : Int) : List El → List ByteArray → List ByteArray → Prop
  | nil : Mat comp [] [] []
  | lit {x : El} {m : List El} {u : ByteArray} {us out : List ByteArray} (h : x.kind = 0) (e : x.text.toList = (ko comp u).toList) (r : Mat comp m us out) : Mat comp (x :: m) (u :: us) out
  | any {x : El} {m : List El} {u : ByteArray} {us out : List ByteArray} (h : x.kind = 1) (r : Mat comp m us out) : Mat comp (x :: m) (u :: us) (u :: out)
  | seq {x : El} {m : List El} {us out : List ByteArray} (p : List ByteArray) (h : x.kind = 2) (r : Mat comp m us out) : Mat comp (x :: m) (p ++ us) (catB p :: out)
def Flat (m : List El) : Prop := ∀ x ∈ m, x.kind = 0 ∨ x.kind = 1
theorem mat_chunk {comp : Int} : ∀ (m : List El) (us rest out : List ByteArray) (re : List El), Flat m → hasP m (us.map (ko comp)) = true → Mat comp re (us.drop m.length) out → rest = us → Mat comp (m ++ re) us (anyL m us ++ out)
  | [], us, _, out, re, _, _, h, _ => h
  | x :: m, [], _, _, _, _, h, _, _ => by cases h
  | x :: m, u :: us, _, out, re, hf, hh, hr, _ => by
    rw [List.map_cons] at hh
    unfold hasP at hh
    rw [Bool.and_eq_true] at hh
    have ih := mat_chunk m us us out re (fun y hy => hf y (by simp [hy])) hh.2 hr rfl
    unfold anyL
    have e1 : (u :: us).take 1 = [u] := rfl
    have e2 : (u :: us).drop 1 = us := rfl
    rw [e1, e2]
    rcases hf x (by simp) with h | h
    · rw [if_neg (by omega)]
      have h1 := hh.1
      rw [decide_eq_false (by omega), Bool.false_or, beq_iff_eq] at h1
      exact .lit h h1 ih
    · rw [if_pos h]
      exact .any h ih
def star : El := ⟨2, ⟨#[]⟩⟩
def unchunk : List (List El) → List El
  | [] => []
  | [c] => c
  | c :: d :: r => c ++ star :: unchunk (d :: r)
theorem unchunk_cons (c : List El) {r : List (List El)} (h : r ≠ []) : unchunk (c :: r) = c ++ star :: unchunk r := by
  cases r with
  | nil => exact absurd rfl h
  | cons d r => rfl
theorem chunk_ne : ∀ (P cur : List El), chunkL cur P ≠ []
  | [], cur => by simp [chunkL]
  | x :: P, cur => by
    unfold chunkL
    split
    · simp
    · exact chunk_ne P _
theorem unchunk_chunk : ∀ (P cur : List El), (∀ x ∈ P, x.kind = 2 → x = star) → unchunk (chunkL cur P) = cur ++ P
  | [], cur, _ => by simp [chunkL, unchunk]
  | x :: P, cur, h => by
    unfold chunkL
    split
    · rename_i hk
      rw [unchunk_cons _ (chunk_ne P []), unchunk_chunk P [] (fun y hy => h y (by simp [hy])), h x (by simp) hk, List.nil_append]
    · rw [unchunk_chunk P _ (fun y hy => h y (by simp [hy])), List.append_assoc]; rfl
theorem chunk_flat : ∀ (P cur : List El), (∀ x ∈ P, x.kind ≤ 2) → Flat cur → ∀ c ∈ chunkL cur P, Flat c
  | [], cur, _, hc, c, hm => by
    have : c = cur := by simpa [chunkL] using hm
    rw [this]; exact hc
  | x :: P, cur, h, hc, c, hm => by
    unfold chunkL at hm
    split at hm
    · rcases List.mem_cons.1 hm with rfl | hm
      · exact hc
      · exact chunk_flat P [] (fun y hy => h y (by simp [hy])) (fun y hy => by cases hy) c hm
    · rename_i hk
      refine chunk_flat P (cur ++ [x]) (fun y hy => h y (by simp [hy])) (fun y hy => ?_) c hm
      rcases List.mem_append.1 hy with hy | hy
      · exact hc y hy
      · rw [List.mem_singleton] at hy
        subst hy
        have := h y (by simp)
        omega
theorem drop_split {α : Type} (U : List α) {p q : Nat} (h : p ≤ q) : U.drop p = (U.drop p).take (q - p) ++ U.drop q := by
  have := List.take_append_drop (q - p) (U.drop p)
  rw [List.drop_drop, show p + (q - p) = q by omega] at this
  exact this.symm
theorem glob_mat {comp : Int} {U : List ByteArray} {n : Nat} : ∀ (r : List (List El)) (k p : Nat) (out R : List ByteArray), 0 < k → k + r.length = n → r ≠ [] → p ≤ U.length → (∀ c ∈ r, Flat c) →
    globF (U.map (ko comp)) U n k r p out = some R → ∃ o, R = out ++ o ∧ Mat comp (star :: unchunk r) (U.drop p) o
  | [], _, _, _, _, _, _, h, _, _, _ => absurd rfl h
  | c :: r, k, p, out, R, hk, hn, _, hp, hf, h => by
    have hpl := place_le (F := U.map (ko comp)) (n := n) (k := k) (m := c) (p := p) (by rw [List.length_map]; exact hp)
    unfold globF at h
    rw [if_neg (by omega)] at h
    cases hh : hasP c ((U.map (ko comp)).drop (place (U.map (ko comp)) n k c p)) with
    | false => rw [if_pos hh] at h; cases h
    | true =>
      rw [if_neg (by rw [hh]; decide), if_pos hk] at h
      rw [List.length_map] at hpl
      have hlen := hasP_len _ _ hh
      rw [List.length_drop, List.length_map] at hlen
      rw [← List.map_drop] at hh
      have hd := drop_split U hpl.1
      by_cases hr : r = []
      · subst hr
        have hq : place (U.map (ko comp)) n k c p + c.length = U.length := by
          have : place (U.map (ko comp)) n k c p = max p (U.length - c.length) := by
            unfold place
            rw [if_pos ⟨hk, by simpa using hn⟩, List.length_map]
          omega
        have hm := mat_chunk c (U.drop (place (U.map (ko comp)) n k c p)) _ [] [] (hf c (by simp)) hh (by rw [List.drop_drop, List.drop_eq_nil_of_le (by omega)]; exact .nil) rfl
        rw [List.append_nil, List.append_nil] at hm
        injection h with h
        refine ⟨_, by rw [← h, List.append_assoc], ?_⟩
        show Mat comp (star :: c) _ _
        have hfin := Mat.seq (x := star) ((U.drop p).take (place (U.map (ko comp)) n k c p - p)) rfl hm
        rw [← hd] at hfin
        exact hfin
      · have hq : place (U.map (ko comp)) n k c p = seek (U.map (ko comp)) c p := by
          unfold place
          rw [if_neg (fun x => hr (by have := x.2; rw [List.length_cons] at hn; exact List.eq_nil_of_length_eq_zero (by omega))), if_pos hk]
        obtain ⟨o, ho, hm⟩ := glob_mat r (k + 1) _ _ _ (by omega) (by rw [List.length_cons] at hn; omega) hr (by omega) (fun x hx => hf x (by simp [hx])) h
        have hm2 := mat_chunk c (U.drop (place (U.map (ko comp)) n k c p)) _ _ _ (hf c (by simp)) hh (by rw [List.drop_drop]; exact hm) rfl
        refine ⟨_, by rw [ho, List.append_assoc, List.append_assoc], ?_⟩
        rw [unchunk_cons _ hr]
        have hfin := Mat.seq (x := star) ((U.drop p).take (place (U.map (ko comp)) n k c p - p)) rfl hm2
        rw [← hd] at hfin
        exact hfin
theorem glob_some {comp : Int} {U : List ByteArray} {P : List El} {R : List ByteArray} (h1 : ∀ x ∈ P, x.kind = 2 → x = star) (h2 : ∀ x ∈ P, x.kind ≤ 2)
    (h : globF (U.map (ko comp)) U (chunkL [] P).length 0 (chunkL [] P) 0 [] = some R) : Mat comp P U R := by
  have hu := unchunk_chunk P [] h1
  have hfl := chunk_flat P [] h2 (fun y hy => by cases hy)
  rw [List.nil_append] at hu
  rw [← hu]
  clear hu
  cases hM : chunkL [] P with
  | nil => exact absurd hM (chunk_ne P [])
  | cons c r =>
    rw [hM] at h hfl
    have hpl : place (U.map (ko comp)) (c :: r).length 0 c 0 = 0 := by unfold place; rw [if_neg (by omega), if_neg (by omega)]
    unfold globF at h
    rw [hpl] at h
    split at h
    · cases h
    · rename_i hA
      split at h
      · cases h
      · rename_i hh
        have hh : hasP c ((U.map (ko comp)).drop 0) = true := by simpa using hh
        rw [List.drop_zero] at hh
        have e : ((([] : List ByteArray) ++ if 0 < 0 then [catB ((U.drop 0).take (0 - 0))] else []) ++ anyL c (U.drop 0)) = anyL c U := by simp
        rw [e] at h
        rw [show 0 + c.length = c.length by omega] at h
        by_cases hr : r = []
        · subst hr
          have hlen : c.length = U.length := by
            by_cases hl : c.length = U.length
            · exact hl
            · exact absurd ⟨rfl, rfl, by rw [List.length_map]; exact hl⟩ hA
          injection h with h
          rw [← h]
          have hm := mat_chunk c U _ [] [] (hfl c (by simp)) hh (by rw [List.drop_eq_nil_of_le (by omega)]; exact .nil) rfl
          rwa [List.append_nil, List.append_nil] at hm
        · have hcl := hasP_len _ _ hh
          rw [List.length_map] at hcl
          obtain ⟨o, ho, hm⟩ := glob_mat (n := (c :: r).length) r 1 c.length _ R (by omega) (by rw [List.length_cons]; omega) hr hcl (fun x hx => hfl x (by simp [hx])) h
          rw [unchunk_cons _ hr, ho]
          exact mat_chunk c U _ _ _ (hfl c (by simp)) hh hm rfl
theorem parse_kinds : ∀ l : List ByteArray, (∀ x ∈ parseL l, x.kind = 2 → x = star) ∧ (∀ x ∈ parseL l, x.kind ≤ 2)
  | [] => ⟨fun x hx => by simp [parseL] at hx, fun x hx => by simp [parseL] at hx⟩
  | [u] => by
    unfold parseL
    split
    · exact ⟨fun x hx _ => (by rw [List.mem_singleton] at hx; exact hx), fun x hx => by rw [List.mem_singleton] at hx; subst hx; exact Nat.le_refl 2⟩
    · split
      · exact ⟨fun x hx h => (by rw [List.mem_singleton] at hx; subst hx; cases h), fun x hx => by rw [List.mem_singleton] at hx; subst hx; exact Nat.le_of_ble_eq_true rfl⟩
      · exact ⟨fun x hx h => (by rw [List.mem_singleton] at hx; subst hx; cases h), fun x hx => by rw [List.mem_singleton] at hx; subst hx; exact Nat.le_of_ble_eq_true rfl⟩
  | u :: v :: r => by
    obtain ⟨a1, a2⟩ := parse_kinds (v :: r)
    obtain ⟨b1, b2⟩ := parse_kinds r
    unfold parseL
    split
    · refine ⟨fun x hx h => ?_, fun x hx => ?_⟩
      · rcases List.mem_cons.1 hx with rfl | hx
        · rfl
        · exact a1 x hx h
      · rcases List.mem_cons.1 hx with rfl | hx
        · exact Nat.le_refl 2
        · exact a2 x hx
    · split
      · refine ⟨fun x hx h => ?_, fun x hx => ?_⟩
        · rcases List.mem_cons.1 hx with rfl | hx
          · cases h
          · exact a1 x hx h
        · rcases List.mem_cons.1 hx with rfl | hx
          · exact Nat.le_of_ble_eq_true rfl
          · exact a2 x hx
      · split
        · refine ⟨fun x hx h => ?_, fun x hx => ?_⟩
          · rcases List.mem_cons.1 hx with rfl | hx
            · cases h
            · exact b1 x hx h
          · rcases List.mem_cons.1 hx with rfl | hx
            · exact Nat.le_of_ble_eq_true rfl
            · exact b2 x hx
        · refine ⟨fun x hx h => ?_, fun x hx => ?_⟩
          · rcases List.mem_cons.1 hx with rfl | hx
            · cases h
            · exact a1 x hx h
          · rcases List.mem_cons.1 hx with rfl | hx
            · exact Nat.le_of_ble_eq_true rfl
            · exact a2 x hx
/-- the texts of a pattern are units -/
theorem parse_units : ∀ l : List ByteArray, (∀ u ∈ l, IsUnit u) → ∀ x ∈ parseL l, x.kind = 0 → IsUnit x.text
  | [], _, x, hx, _ => by simp [parseL] at hx
  | [u], h, x, hx, hk => by
    unfold parseL at hx
    split at hx
    · rw [List.mem_singleton] at hx; subst hx; cases hk
    · split at hx
      · rw [List.mem_singleton] at hx; subst hx; cases hk
      · rw [List.mem_singleton] at hx; subst hx; exact h u (by simp)
  | u :: v :: r, h, x, hx, hk => by
    have i1 := parse_units (v :: r) (fun w hw => h w (List.mem_cons_of_mem _ hw)) x
    have i2 := parse_units r (fun w hw => h w (List.mem_cons_of_mem _ (List.mem_cons_of_mem _ hw))) x
    unfold parseL at hx
    split at hx
    · rcases List.mem_cons.1 hx with rfl | hx
      · cases hk
      · exact i1 hx hk
    · split at hx
      · rcases List.mem_cons.1 hx with rfl | hx
        · cases hk
        · exact i1 hx hk
      · split at hx
        · rcases List.mem_cons.1 hx with rfl | hx
          · exact h v (by simp)
          · exact i2 hx hk
        · rcases List.mem_cons.1 hx with rfl | hx
          · exact h u (by simp)
          · exact i1 hx hk
/-- an element as the collation sees it -/
def kE (comp : Int) (x : El) : El := if x.kind = 0 then ⟨0, ko comp x.text⟩ else x
theorem low_sign : ∀ n : Nat, n < 128 → ∀ c ∈ [42, 63, 92], (lowN n = c ↔ n = c) := by decide +kernel
theorem ko_sign (comp : Int) {u : ByteArray} (hu : IsUnit u) (c : Nat) (hc : c ∈ [42, 63, 92]) : (ko comp u).toList = [UInt8.ofNat c] ↔ u.toList = [UInt8.ofNat c] := by
  unfold ko
  split
  · rw [Lib.toList_data, Lib.toList_data]
    have hs := fo_size hu
    have hc3 : c < 128 := by simp at hc; omega
    constructor
    · intro h
      have h1 : u.size = 1 := by rw [← hs, ← size_l, h]; rfl
      rw [fo_l, fold_one hu h1] at h
      rw [one_of h1]
      split at h
      · rename_i hl
        injection h with h
        have h2 := congrArg UInt8.toNat h
        rw [UInt8.toNat_ofNat', UInt8.toNat_ofNat'] at h2
        have h3 := (lowN_128 _).1 hl
        have h4 := (low_sign _ hl c hc).1 (by omega)
        rw [← h4]; simp
      · exact h
    · intro h
      have h1 : u.size = 1 := by rw [← size_l, h]; rfl
      rw [fo_l, fold_one hu h1]
      rw [one_of h1] at h
      injection h with h
      have h2 := congrArg UInt8.toNat h
      rw [UInt8.toNat_ofNat'] at h2
      rw [if_pos (by omega), (low_sign _ (by omega) c hc).2 (by omega)]
  · exact Iff.rfl
theorem parse_key (comp : Int) : ∀ l : List ByteArray, (∀ u ∈ l, IsUnit u) → parseL (l.map (ko comp)) = (parseL l).map (kE comp)
  | [], _ => rfl
  | [u], h => by
    have hu := h u (by simp)
    have s1 : (ko comp u).toList = [42] ↔ u.toList = [42] := ko_sign comp hu 42 (by simp)
    have s2 : (ko comp u).toList = [63] ↔ u.toList = [63] := ko_sign comp hu 63 (by simp)
    rw [List.map_cons, List.map_nil]
    unfold parseL
    by_cases c1 : u.toList = [42]
    · rw [if_pos (s1.2 c1), if_pos c1]; rfl
    · rw [if_neg (fun x => c1 (s1.1 x)), if_neg c1]
      by_cases c2 : u.toList = [63]
      · rw [if_pos (s2.2 c2), if_pos c2]; rfl
      · rw [if_neg (fun x => c2 (s2.1 x)), if_neg c2]; rfl
  | u :: v :: r, h => by
    have i1 := parse_key comp (v :: r) (fun w hw => h w (List.mem_cons_of_mem _ hw))
    have i2 := parse_key comp r (fun w hw => h w (List.mem_cons_of_mem _ (List.mem_cons_of_mem _ hw)))
    have hu := h u (by simp)
    have s1 : (ko comp u).toList = [42] ↔ u.toList = [42] := ko_sign comp hu 42 (by simp)
    have s2 : (ko comp u).toList = [63] ↔ u.toList = [63] := ko_sign comp hu 63 (by simp)
    have s3 : (ko comp u).toList = [92] ↔ u.toList = [92] := ko_sign comp hu 92 (by simp)
    rw [List.map_cons] at i1
    rw [List.map_cons, List.map_cons]
    unfold parseL
    by_cases c1 : u.toList = [42]
    · rw [if_pos (s1.2 c1), if_pos c1, i1]; rfl
    · rw [if_neg (fun x => c1 (s1.1 x)), if_neg c1]
      by_cases c2 : u.toList = [63]
      · rw [if_pos (s2.2 c2), if_pos c2, i1]; rfl
      · rw [if_neg (fun x => c2 (s2.1 x)), if_neg c2]
        by_cases c3 : u.toList = [92]
        · rw [if_pos (s3.2 c3), if_pos c3, i2]; rfl
        · rw [if_neg (fun x => c3 (s3.1 x)), if_neg c3, i1]; rfl
theorem ko_sim (comp : Int) {u t : ByteArray} (hu : IsUnit u) (ht : IsUnit t) (h : (ko comp t).toList = (ko comp u).toList) : Sim u t := by
  rw [Lib.toList_data, Lib.toList_data] at h
  have h := ba_ext h
  unfold ko at h
  split at h
  · have hs : u.size = t.size := by rw [← fo_size hu, ← fo_size ht, h]
    by_cases o1 : Okay u.data.toList
    · have o3 : Okay (fo u).data.toList := by
        obtain ⟨n, hn, he⟩ := okay_unit hu o1
        exact (unit_enc1 (lowN_sca hn) (fo_ok hn he)).2
      by_cases o2 : Okay t.data.toList
      · exact .inr ⟨o1, hu, o2, ht, hs⟩
      · rw [fo_bad ht o2] at h
        rw [← h] at o3
        exact absurd o3 o2
    · rw [fo_bad hu o1] at h
      by_cases o2 : Okay t.data.toList
      · obtain ⟨n, hn, he⟩ := okay_unit ht o2
        have := (unit_enc1 (lowN_sca hn) (fo_ok hn he)).2
        rw [h] at this
        exact absurd this o1
      · rw [fo_bad ht o2] at h
        exact .inl h
  · exact .inl h
/-- the string that the marks and the parts give -/
def bk : List El → List ByteArray → List UInt8
  | [], _ => []
  | x :: m, out => if x.kind = 0 then x.text.data.toList ++ bk m out else match out with
    | [] => []
    | o :: r => o.data.toList ++ bk m r
def al : List El → List ByteArray → List UInt8
  | [], _ => []
  | x :: m, out => if x.kind = 0 then al m out else match out with
    | [] => []
    | o :: r => o.data.toList ++ al m r
def okM : List El → List ByteArray → Bool
  | [], out => out.isEmpty
  | x :: m, out => if x.kind = 0 then okM m out else match out with
    | [] => false
    | o :: r => (decide (x.kind ≠ 1) || decide ((unitsB o.data.toList).length = 1)) && okM m r
theorem catB_l (us : List ByteArray) : (catB us).data.toList = catL us := by simp [catB]
theorem like_refl : ∀ us : List ByteArray, Like us us
  | [] => trivial
  | u :: us => ⟨.inl rfl, like_refl us⟩
theorem like_app : ∀ (a b c d : List ByteArray), a.length = b.length → Like a b → Like c d → Like (a ++ c) (b ++ d)
  | [], [], _, _, _, _, h => h
  | [], _ :: _, _, _, h, _, _ => by simp at h
  | _ :: _, [], _, _, h, _, _ => by simp at h
  | x :: a, y :: b, c, d, h, h1, h2 => ⟨h1.1, like_app a b c d (by simpa using h) h1.2 h2⟩
theorem mat_back {comp : Int} : ∀ (M : List El) (us out : List ByteArray), (∀ x ∈ M, x.kind = 0 → IsUnit x.text) → (∀ u ∈ us, IsUnit u) → Mat comp (M.map (kE comp)) us out →
    okM M out = true ∧ (∃ vs, bk M out = catL vs ∧ vs.length = us.length ∧ Like us vs ∧ vs.map (ko comp) = us.map (ko comp)) ∧ (al M out).length ≤ (catL us).length
  | [], us, out, _, _, h => by
    rw [List.map_nil] at h
    cases h
    exact ⟨rfl, ⟨[], rfl, rfl, trivial, rfl⟩, Nat.le_refl _⟩
  | x :: M, us, out, hM, hU, h => by
    have hM2 : ∀ y ∈ M, y.kind = 0 → IsUnit y.text := fun y hy => hM y (by simp [hy])
    rw [List.map_cons] at h
    have hk : (kE comp x).kind = x.kind := by unfold kE; split <;> simp_all
    generalize hx : kE comp x = x' at h hk
    cases h with
    | lit h e r =>
      rename_i u us
      have h0 : x.kind = 0 := by omega
      obtain ⟨i1, ⟨vs, j1, j2, j3, j4⟩, i3⟩ := mat_back M us out hM2 (fun v hv => hU v (by simp [hv])) r
      have ht : x'.text = ko comp x.text := by rw [← hx]; unfold kE; rw [if_pos h0]
      rw [ht] at e
      have hs := ko_sim comp (hU u (by simp)) (hM x (by simp) h0) e
      unfold okM bk al
      rw [if_pos h0, if_pos h0, if_pos h0]
      refine ⟨i1, ⟨x.text :: vs, by rw [j1, catL_cons], by rw [List.length_cons, List.length_cons, j2], ⟨hs, j3⟩, ?_⟩, by rw [catL_cons, List.length_append]; omega⟩
      rw [List.map_cons, List.map_cons, j4]
      rw [Lib.toList_data, Lib.toList_data] at e
      rw [ba_ext e]
    | any h r =>
      rename_i u us out
      obtain ⟨i1, ⟨vs, j1, j2, j3, j4⟩, i3⟩ := mat_back M us out hM2 (fun v hv => hU v (by simp [hv])) r
      have h1 : x.kind = 1 := by omega
      have hw := units_wf _ (unit_wf (hU u (by simp)))
      rw [show catL [u] = u.data.toList from by rw [catL_cons]; exact List.append_nil _] at hw
      unfold okM bk al
      rw [if_neg (by omega), if_neg (by omega), if_neg (by omega)]
      refine ⟨?_, ⟨u :: vs, by show u.data.toList ++ bk M out = _; rw [j1, catL_cons], by rw [List.length_cons, List.length_cons, j2], ⟨.inl rfl, j3⟩, by rw [List.map_cons, List.map_cons, j4]⟩, ?_⟩
      · show ((decide (x.kind ≠ 1) || decide ((unitsB u.data.toList).length = 1)) && okM M out) = true
        rw [i1, hw]; simp
      · show (u.data.toList ++ al M out).length ≤ _
        rw [catL_cons, List.length_append, List.length_append]; omega
    | seq p h r =>
      rename_i us out
      obtain ⟨i1, ⟨vs, j1, j2, j3, j4⟩, i3⟩ := mat_back M us out hM2 (fun v hv => hU v (by simp [hv])) r
      have h1 : x.kind = 2 := by omega
      unfold okM bk al
      rw [if_neg (by omega), if_neg (by omega), if_neg (by omega)]
      refine ⟨?_, ⟨p ++ vs, by show (catB p).data.toList ++ bk M out = _; rw [j1, catL_append, catB_l], by rw [List.length_append, List.length_append, j2], like_app p p us vs rfl (like_refl p) j3, by rw [List.map_append, List.map_append, j4]⟩, ?_⟩
      · show ((decide (x.kind ≠ 1) || decide ((unitsB (catB p).data.toList).length = 1)) && okM M out) = true
        rw [i1, decide_eq_true (by omega)]; rfl
      · show ((catB p).data.toList ++ al M out).length ≤ _
        rw [catB_l, catL_append, List.length_append, List.length_append]; omega
/-- what the law of the match says of it -/
theorem glob_law {comp : Int} {pat s : List UInt8} {out : List ByteArray} (h : globL comp pat s = some out) :
    okM (parseL (unitsB pat)) out = true ∧ keyL comp (bk (parseL (unitsB pat)) out) = keyL comp s ∧ (bk (parseL (unitsB pat)) out).length = s.length ∧ (al (parseL (unitsB pat)) out).length ≤ s.length := by
  have hw := wf_of s
  have hp := wf_mem _ (wf_of pat)
  unfold globL chunksK unitsK at h
  rw [units_key, units_key, parse_key comp _ hp] at h
  have hkk : ∀ x : El, (kE comp x).kind = x.kind := fun x => by unfold kE; split <;> simp_all
  obtain ⟨p1, p2⟩ := parse_kinds (unitsB pat)
  have hm := glob_some (P := (parseL (unitsB pat)).map (kE comp)) (fun x hx h2 => by
    obtain ⟨y, hy, rfl⟩ := List.mem_map.1 hx
    rw [hkk] at h2
    rw [p1 y hy h2]; rfl) (fun x hx => by
    obtain ⟨y, hy, rfl⟩ := List.mem_map.1 hx
    rw [hkk]; exact p2 y hy) h
  obtain ⟨h1, ⟨vs, h2, h3, h4, h5⟩, h6⟩ := mat_back _ _ _ (parse_units _ hp) (wf_mem _ hw) hm
  have hcs := catL_units _ s (Nat.le_refl _)
  have hv := (wf_like vs _ hw h4).1
  have hk : keyL comp (bk (parseL (unitsB pat)) out) = keyL comp s := by
    rw [h2, key_wf comp hv, h5, ← key_wf comp hw, hcs]
  refine ⟨h1, hk, ?_, by rw [hcs] at h6; exact h6⟩
  rw [← keyL_len comp, hk, keyL_len]
end Go.Proofs.YtlbnhkojfefccaaDoor
