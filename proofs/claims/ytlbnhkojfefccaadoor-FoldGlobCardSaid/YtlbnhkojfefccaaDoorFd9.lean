/- Walks: fold.Glob. -/
import Derived.Test.YtlbnhkojfefccaaDoorFdP
import Derived.Deep.DeepCutAuto
import Derived.Deep.CutBlock
namespace Go.Proofs.YtlbnhkojfefccaaDoor
open Go.RowKit Pk U8 Su Fo

def GlobIs (R : Option (List ByteArray)) (w : World) (e : Ending) (w' : World) : Prop := match R with
  | none => e = .returned (.tuple #[.slice none 0 0, .bool false]) ∧ Below w.heap.size w w'
  | some out => ∃ v, e = .returned (.tuple #[v, .bool true]) ∧ ownsS w' w.heap.size 9 v out ∧ Below w.heap.size w w'
theorem chunk_end {P cur : List El} {Ms X : List (List El)} {i : Nat} (h : Hid (Ms ++ chunkL cur (P.drop i) = X)) (hi : ¬ i < P.length) : Ms ++ [cur] = X := by
  have e := h.out
  rw [List.drop_eq_nil_of_le (by omega)] at e
  exact e
theorem chunk_step {P cur : List El} {Ms X : List (List El)} {i : Nat} (h : Hid (Ms ++ chunkL cur (P.drop i) = X)) (hi : i < P.length) :
    (P[i].kind = 2 → Hid (Ms ++ [cur] ++ chunkL [] (P.drop (i + 1)) = X)) ∧ (P[i].kind ≠ 2 → Hid (Ms ++ chunkL (cur ++ [P[i]]) (P.drop (i + 1)) = X)) := by
  have e := h.out
  rw [List.drop_eq_getElem_cons hi] at e
  unfold chunkL at e
  refine ⟨fun h1 => ?_, fun h1 => ?_⟩
  · rw [if_pos h1] at e
    show _ = _
    rw [← e]; simp
  · rw [if_neg h1] at e
    exact e
theorem own_shape {w : World} {B : Nat} {e : TypeId} {v : Value} {l : List ByteArray} (h : ownsS w B e v l) : ∃ p c, v = .slice p l.length c := by
  rcases h.2 with ⟨h1, h2⟩ | ⟨g, cap, cur, h1, -⟩
  · exact ⟨none, 0, by rw [h1, h2]⟩
  · exact ⟨_, _, h1⟩
theorem own_shapeE {w : World} {B : Nat} {e : TypeId} {v : Value} {l : List El} (h : ownsE w B e v l) : ∃ p c, v = .slice p l.length c := by
  rcases h.2 with ⟨h1, h2⟩ | ⟨g, cap, cur, h1, -⟩
  · exact ⟨none, 0, by rw [h1, h2]⟩
  · exact ⟨_, _, h1⟩
theorem after_two {w3 w4 : World} {v : Value} {t t' : TypeId} {l : Array Value} (h : Below ((w3.alloc (.cells #[v] t)).alloc (.cells l t')).heap.size ((w3.alloc (.cells #[v] t)).alloc (.cells l t')) w4) : Below w3.heap.size w3 w4 ∧ w4.heap[w3.heap.size]? = some (.cells #[v] t (0, 0)) := by
  have e : ((w3.alloc (.cells #[v] t)).alloc (.cells l t')).heap.size = w3.heap.size + 2 := by simp
  have hA : Below w3.heap.size w3 ((w3.alloc (.cells #[v] t)).alloc (.cells l t')) := ((Below.refl _ _).alloc (Nat.le_refl _) _).alloc (by simp) _
  refine ⟨hA.trans (h.mono (by omega)), ?_⟩
  rw [h.block _ (by omega)]
  exact (heap_alloc_old _ _ (by simp)).trans (heap_alloc_new w3 _)
theorem uv_of {w w' : World} {B C : Nat} {v : Value} {us : List ByteArray} (h : ownsS w B 9 v us) (hb : Below C w w') (hC : w.heap.size ≤ C) : us = [] ∨ ∃ gu cu, v = .slice (some ⟨gu, 0, none⟩) us.length cu ∧ us.length ≤ cu ∧ gu < w.heap.size ∧ ∀ j (hj : j < us.length), w'.cell? ⟨gu, j, none⟩ = some (.string us[j]) := by
  rcases h.form with ⟨-, h2⟩ | ⟨g, cap, h1, -, h2, -, h3⟩
  · exact .inl h2
  · by_cases h0 : 0 < us.length
    · have hg : g < w.heap.size := World.block_lt_of_cell? _ _ (h3 0 h0)
      refine .inr ⟨g, cap, h1, h2, hg, fun j hj => ?_⟩
      rw [← h3 j hj]
      unfold World.cell?
      rw [hb.block g (by omega)]
    · exact .inl (List.eq_nil_of_length_eq_zero (by omega))
/-- Join of a part of a row, as the machine spells the part -/
theorem join0_cut {l : List ByteArray} {p : Option Addr} {c lo hi : Nat} (wx : World) (h : l = [] ∨ ∃ g, p = some ⟨g, 0, none⟩ ∧ ∀ j (hj : j < l.length), wx.cell? ⟨g, j, none⟩ = some (.string l[j])) (hc : l.length ≤ c) (h1 : lo ≤ hi) (h2 : hi ≤ l.length) (hb : (catL l).length ≤ 1000000) (hn : l.length ≤ 1000000) (us : List ByteArray) (hus : (l.drop lo).take (hi - lo) = us) :
    (c ≠ lo → Calls Tryd.prog 41 #[.slice (p.map (·.add lo)) (hi - lo) (c - lo), .string ⟨#[]⟩] wx fun e w' => e = .returned (.string (catB us)) ∧ Below wx.heap.size wx w') ∧
    (c = lo → Calls Tryd.prog 41 #[.slice p 0 0, .string ⟨#[]⟩] wx fun e w' => e = .returned (.string (catB us)) ∧ Below wx.heap.size wx w') := by
  have hJ := join0_any _ ((l.drop lo).take (hi - lo)) wx (sees_cut h hc h1 h2) (by have := catL_mid l lo (hi - lo); omega) (by rw [List.length_take, List.length_drop]; omega)
  rw [hus] at hJ
  refine ⟨fun hne => ?_, fun he => ?_⟩
  · rw [if_neg hne, Nat.mul_one] at hJ
    exact hJ
  · rw [if_pos he, show hi - lo = 0 by omega, show c - lo = 0 by omega] at hJ
    exact hJ
set_option maxRecDepth 100000 in
theorem glob_num (pat s : ByteArray) (w : World) : Calls Tryd.prog 19 #[.int .i64 3, .string pat, .string s] w (GlobIs none w) := by
  have hpost : Hid (GlobIs none w (.returned (.tuple #[.slice none 0 0, .bool false])) w) := ⟨rfl, Below.refl _ _⟩
  go_enter Tryd.func19, Tryd.ntmps19
  go_wp2
  go_ret2
  exact hpost.out
set_option maxHeartbeats 4000000 in
set_option maxRecDepth 100000 in
theorem glob_any (comp : Int) (pat s : ByteArray) (w : World) (hS : Spans w) (hs : s.size ≤ 100000) (hp : pat.size ≤ 100000) (hc : comp ≠ 3) (hFU : (unitsK comp s.data.toList).length = (unitsB s.data.toList).length) :
    Calls Tryd.prog 19 #[.int .i64 comp, .string pat, .string s] w (GlobIs (globL comp pat.data.toList s.data.toList) w) := by
  have hKS := fun w' (hb : Below w.heap.size w w') => key_any comp s w' (hS.later hb) (by omega)
  have hKP := fun w' (hb : Below w.heap.size w w') => key_any comp pat w' (hS.later hb) (by omega)
  obtain ⟨K, hK, hKl, hKs⟩ : ∃ X : ByteArray, X = ⟨(keyL comp s.data.toList).toArray⟩ ∧ X.data.toList = keyL comp s.data.toList ∧ X.size = (keyL comp s.data.toList).length := ⟨_, rfl, by simp, by simp [ByteArray.size]⟩
  obtain ⟨L, hL, hLl, hLs⟩ : ∃ X : ByteArray, X = ⟨(keyL comp pat.data.toList).toArray⟩ ∧ X.data.toList = keyL comp pat.data.toList ∧ X.size = (keyL comp pat.data.toList).length := ⟨_, rfl, by simp, by simp [ByteArray.size]⟩
  rw [← hK] at hKS
  rw [← hL] at hKP
  have l1 := keyL_length comp s.data.toList
  have l2 := keyL_length comp pat.data.toList
  have l3 : s.data.toList.length = s.size := rfl
  have l4 : pat.data.toList.length = pat.size := rfl
  have hUF := fun w' => unitsP_any K w' (by omega)
  have hUU := fun w' => unitsP_any s w' (by omega)
  have hPA := fun w' => parse_any L w' (by omega)
  unfold UnitsP at hUF hUU
  unfold ParseIs at hPA
  rw [hKl] at hUF
  rw [hLl] at hPA
  have m1 := units_length s.data.toList
  have m2 := parse_length (unitsB (keyL comp pat.data.toList))
  have m3 := units_length (keyL comp pat.data.toList)
  unfold globL chunksK
  unfold unitsK at hFU ⊢
  generalize unitsB (keyL comp s.data.toList) = F at hUF hFU ⊢
  have m4 := catL_units _ s.data.toList (Nat.le_refl _)
  generalize unitsB s.data.toList = U at hUU hFU m1 m4 ⊢
  have hUL : (catL U).length ≤ 100000 := by rw [m4]; omega
  generalize parseL (unitsB (keyL comp pat.data.toList)) = P at hPA m2 ⊢
  have hPn : P.length ≤ 100000 := by omega
  have hUn : U.length ≤ 100000 := by omega
  have hFn : F.length ≤ 100000 := by omega
  have q3 : (comp == 3) = false := beq_eq_false_iff_ne.2 hc
  have HKS := Lib.hid hKS
  have HKP := Lib.hid hKP
  have HUF := Lib.hid hUF
  have HUU := Lib.hid hUU
  have HPA := Lib.hid hPA
  have HFU := Lib.hid hFU
  obtain ⟨R, hR⟩ : ∃ R, R = globF F U (chunkL [] P).length 0 (chunkL [] P) 0 [] := ⟨_, rfl⟩
  rw [← hR]
  have HR := Lib.hid hR
  have tb := Below.refl w.heap.size w
  clear m4 hFU hR hS hKS hKP hK hKl hKs hL hLl hLs l1 l2 l3 l4 hUF hUU hPA m1 m2 m3 hc
  go_enter Tryd.func19, Tryd.ntmps19
  go_wp2_with (first
    | (go_at_call 31; (with_reducible refine (HKS.out _ tb).mono ?_); rintro e w1 ⟨rfl, hb1⟩; have tb := tb.trans (hb1.mono tb.size))
    | (go_at_call 10; (with_reducible refine (HUF.out _).mono ?_); rintro e w2 ⟨vF, rfl, hownF, hb2⟩; have tb := tb.trans (hb2.mono tb.size); obtain ⟨pF, cF, rfl⟩ := own_shape hownF)
    | (go_at_call 10; (with_reducible refine (HUU.out _).mono ?_); rintro e w3 ⟨vU, rfl, hownU, hb3⟩; have tb := tb.trans (hb3.mono tb.size); obtain ⟨pU, cU, rfl⟩ := own_shape hownU; have tb4 := Below.alloc (Below.alloc tb tb.size (.cells #[.slice pU U.length cU] 24)) (by have := tb.size; simp; omega) (.cells #[] 62))
    | (go_at_call 31; (with_reducible refine (HKP.out _ tb4).mono ?_); rintro e w4 ⟨rfl, hb4⟩; have tb := tb4.trans (hb4.mono tb4.size); obtain ⟨hb34, cU4⟩ := after_two hb4; clear hb4 tb4)
    | (go_at_call 38; (with_reducible refine (HPA.out _).mono ?_); rintro e w5 ⟨vP, rfl, hownP, hb5⟩; have tb := tb.trans (hb5.mono tb.size); obtain ⟨pP, cP, rfl⟩ := own_shapeE hownP))
  have hsP := ownsE.sees hownP (Nat.le_refl _)
  have hz5 := tb.size
  have hPc : P = [] ∨ ∃ gP, pP = some ⟨gP, 0, none⟩ ∧ gP < w5.heap.size ∧ ∀ j (hj : j < P.length), w5.cell? ⟨gP, j * 2, none⟩ = some (.int .i64 P[j].kind) ∧ w5.cell? ⟨gP, j * 2 + 1, none⟩ = some (.string P[j].text) := by
    obtain ⟨p, c, h1, -, h3⟩ := hsP.form
    injection h1 with h1 _ _
    subst h1
    exact h3
  have HPC := Lib.hid hPc
  have hst0 : CSt w5 w5.heap.size w5.heap.size (w3.heap.size + 1) (.slice none 0 0) [] (.slice (some ⟨w3.heap.size + 1, 0, none⟩) 0 0) [] := ⟨⟨[], World.ownsRow_nil _ _ _ _, trivial⟩, .inl ⟨rfl, rfl⟩, Nat.le_refl _, Nat.le_refl _⟩
  clear hPc hsP hownP
  go_loopw [10, 11, 34] (fun cv hv iv wr => ∃ (i : Nat) (Ms : List (List El)) (cur : List El) (C : Nat), iv = .int .i64 i ∧ CSt wr w5.heap.size C (w3.heap.size + 1) cv Ms hv cur ∧ Below w5.heap.size w5 wr ∧ i ≤ P.length ∧ cur.length ≤ i ∧ Ms.length ≤ i ∧ Hid (Ms ++ chunkL cur (P.drop i) = chunkL [] P)) (fun _ _ iv _ => P.length - (intOf iv).toNat)
  case atStart => exact ⟨0, [], [], _, by first | rfl | trivial, hst0, Below.refl _ _, by omega, by simp, by simp, rfl⟩
  case round =>
    clear hst0
    obtain ⟨i, Ms, cur, C, rfl, hst, hbel, hi, hcl, hml, hrel⟩ := hrel
    have hsz := hbel.size
    have hz0 := hst.hz
    obtain ⟨pc, cc, rfl⟩ := hst.cur.shape
    by_cases hlt : i < P.length
    · obtain ⟨s1, s2⟩ := chunk_step hrel hlt
      rcases HPC.out with h0 | ⟨gP, rfl, hgP, hPc⟩
      · exact absurd hlt (by rw [h0]; simp)
      · obtain ⟨c0, c1⟩ := hPc i hlt
        have c0 := cell_later hbel c0
        have c1 := cell_later hbel c1
        have hst1 := hst.alloc (.cells #[.int .i64 P[i].kind, .string P[i].text] 62)
        have hbel1 := hbel.alloc hsz (.cells #[.int .i64 P[i].kind, .string P[i].text] 62)
        have hsz1 := hbel1.size
        have hz1 := hst1.hz
        have hle1 := hst1.le
        by_cases hk : P[i].kind = 2
        · have qk : ((P[i].kind : Int) == 2) = true := beq_iff_eq.2 (by omega)
          have hd := s1 hk
          obtain ⟨Vs, hV, hsee⟩ := hst1.own
          have hVl := seesL.len hsee
          have hone := hst1.cur.one
          clear s1 s2 hrel hk hst hbel
          go_wp2_with (at_builtin; refine append_val _ rfl (.tmp 41) (.tmp 43) rfl w5.heap.size _ _ rfl (ownsV.alloc hV _) ⟨_, 0, none⟩ _ 1 rfl (cells_new1 _ _ _ _) hone (by first | omega | (simp; done) | (simp; omega)) (by first | omega | (simp; done) | (simp; omega)) ?_; intro v6 w6 hV6 hg6; obtain ⟨hst6, hb6, -⟩ := hst1.next hV hsee hV6 hg6; have hbel6 := hb6 _ (Nat.le_refl _) _ hbel1; clear hg6)
          go_roundw
          case rel => exact ⟨i + 1, _, _, _, by go_num, hst6, hbel6, by omega, by simp, by rw [List.length_append, List.length_singleton]; omega, hd⟩
          case measure => simp [intOf]; omega
        · have qk : ((P[i].kind : Int) == 2) = false := beq_eq_false_iff_ne.2 (by omega)
          have hd := s2 hk
          clear s1 s2 hrel hk hst hbel
          go_wp2_with (at_builtin; refine append_cur _ rfl (.tmp 45) (.tmp 47) rfl C (w3.heap.size + 1) _ _ rfl (hst1.cur.alloc _) ⟨_, 0, none⟩ P[i] 1 rfl (cells_new1 _ _ _ _) (by first | omega | (simp; done) | (simp; omega)) (by first | omega | (simp; done) | (simp; omega)) ?_; intro v6 w6 row6 hE6 hg6 hr6; obtain ⟨hst6, hb6⟩ := hst1.push hE6 hg6 hr6; have hbel6 := hb6 _ hle1 _ hbel1; clear hg6 hr6)
          go_roundw
          case rel => exact ⟨i + 1, _, _, _, by go_num, hst6, hbel6, by omega, by rw [List.length_append, List.length_singleton]; omega, by omega, hd⟩
          case measure => simp [intOf]; omega
    · have hfin := chunk_end hrel hlt
      have hR2 := HR.out
      rw [← hfin] at hR2
      have HML := Lib.hid (show ∀ m ∈ Ms ++ [cur], m.length ≤ 100000 from fun m hm => by have := chunk_mem_len P [] m (by rw [← hfin]; exact hm); rw [List.length_nil] at this; omega)
      obtain ⟨Vs, hV, hsee⟩ := hst.own
      have hVl := seesL.len hsee
      have hone := hst.cur.one
      have hMl : (Ms ++ [cur]).length = Ms.length + 1 := by simp
      clear hfin hrel HPC
      go_wp2_with (at_builtin; refine append_val _ rfl (.tmp 50) (.tmp 52) rfl w5.heap.size _ _ rfl (ownsV.alloc hV _) ⟨_, 0, none⟩ _ 1 rfl (cells_new _ _ _) hone (by first | omega | (simp; done) | (simp; omega)) (by first | omega | (simp; done) | (simp; omega)) ?_; intro v6 w6 hV6 hg6; obtain ⟨-, hb6, hsee6⟩ := hst.next hV hsee hV6 hg6; have hbel6 := hb6 _ (Nat.le_refl _) _ hbel; obtain ⟨gC, cC, N, rfl, hN, hNc, hgC, hcC⟩ := ownsV.shape hV6 (by simp); have HN := Lib.hid hN; clear hg6 hN)
      have hb36 := (hb34.trans (hb5.mono hb34.size)).trans (hbel6.mono (by have := hb34.size; have := hb5.size; omega))
      have z36 := hb36.size
      have cU6 : w6.heap[w3.heap.size]? = some (.cells #[.slice pU U.length cU] 24 (0, 0)) := by
        have hlt := lt_of_block cU4
        rw [hbel6.block _ (by have := hb5.size; omega), hb5.block _ hlt]
        exact cU4
      have hlU := lt_of_block cU6
      have hUV := uv_of hownU hb36 (Nat.le_refl _)
      have hFV := uv_of hownF ((hb3.mono (Nat.le_refl _)).trans (hb36.mono hb3.size)) (Nat.le_refl _)
      have hN2 : N = Ms.length + 1 := by have := HN.out; rw [List.length_append, List.length_singleton] at this; omega
      obtain ⟨MS, hMS⟩ : ∃ MS, MS = Ms ++ [cur] := ⟨_, rfl⟩
      rw [← hMS] at hR2 hsee6 hMl HML
      have hMN : MS.length = N := by omega
      have hck : Hid (∀ k (hk : k < MS.length), ∃ vk, w6.cell? ⟨gC, k, none⟩ = some vk ∧ seesE w6 w6.heap.size 62 vk MS[k]) := fun k hk => by
        have hl := seesL.len hsee6
        exact ⟨_, hcC k (by omega), seesL.get hsee6 k (by omega) hk⟩
      have hU6 := (cell_one cU6).1
      have tb6 : Below w.heap.size w w6 := tb.trans (hbel6.mono hz5)
      have HUV := Lib.hid hUV
      have HFV := Lib.hid hFV
      have hF1 := HFU.out
      have hR3 : Hid (globF F U N 0 (MS.drop 0) 0 [] = R) := by show _ = _; rw [List.drop_zero, ← hMN]; exact hR2.symm
      have hNn : N ≤ 100001 := by omega
      have hz6 := tb6.size
      have hbU3 : w3.heap.size < w6.heap.size := hlU
      obtain ⟨bU, hbU⟩ : ∃ b, b = w3.heap.size := ⟨_, rfl⟩
      have hG0 : GSt ((w6.alloc (.cells #[.slice none 0 0] 24)).alloc (.cells #[.int .i64 ((0 : Nat) : Int)] 3)) w6.heap.size (w6.heap.size + 1) (w6.heap.size + 2) [] 0 :=
        ⟨⟨_, (heap_alloc_old _ _ (by simp)).trans (heap_alloc_new w6 _), ownsS.nil _ _ _⟩, by
          have := heap_alloc_new (w6.alloc (.cells #[.slice none 0 0] 24)) (.cells #[.int .i64 ((0 : Nat) : Int)] 3)
          have e : (w6.alloc (.cells #[.slice none 0 0] 24)).heap.size = w6.heap.size + 1 := by simp
          rwa [e] at this⟩
      have hB0 : Below w6.heap.size w6 ((w6.alloc (.cells #[.slice none 0 0] 24)).alloc (.cells #[.int .i64 ((0 : Nat) : Int)] 3)) := ((Below.refl _ _).alloc (Nat.le_refl _) _).alloc (by simp) _
      have hzz : w6.heap.size + 2 ≤ ((w6.alloc (.cells #[.slice none 0 0] 24)).alloc (.cells #[.int .i64 ((0 : Nat) : Int)] 3)).heap.size := by simp
      clear hsee6 hMS hV6 hV hsee hVl hone hst hbel hcl hml hbel6 hz0 hsz hi hlt hMl hR2 hb6 hcC hUV hFV hb36 z36 cU6 HN hN2 tb hb34 hb5 cU4 hz5 hlU HKS HKP HUF HUU HPA HR
      go_loopg [57] N (fun g kv wr => ∃ (k p : Nat) (out : List ByteArray), k + g = N ∧ kv = .int .i64 k ∧ GSt wr w6.heap.size (w6.heap.size + 1) (w6.heap.size + 2) out p ∧ Below w6.heap.size w6 wr ∧ w6.heap.size + 2 ≤ wr.heap.size ∧ p ≤ F.length ∧ out.length ≤ k + p ∧ Hid (globF F U N k (MS.drop k) p out = R))
      case atStart => exact ⟨0, 0, [], by omega, by first | rfl | trivial, hG0, hB0, hzz, by omega, by simp, hR3⟩
      case round =>
        clear hG0 hB0 hzz hR3
        obtain ⟨k, p, out, hkg, rfl, hG, hbel, hz, hpF, hol, hrel⟩ := hrel
        by_cases hlt : k < N
        · have hkM : k < MS.length := by omega
          obtain ⟨vk, hvk, hse⟩ := hck.out k hkM
          obtain ⟨g1, g2, g3⟩ := glob_step hrel.out hkM
          have hml := HML.out MS[k] (List.getElem_mem _)
          have hpl := place_le (n := N) (k := k) (m := MS[k]) hpF
          have hvk1 := cell_later hbel hvk
          obtain ⟨q, hq⟩ : ∃ q, q = place F N k MS[k] p := ⟨_, rfl⟩
          rw [← hq] at g2 g3 hpl
          have hq0 : ¬ 0 < k → q = p := fun h => by rw [hq]; unfold place; rw [if_neg (by omega), if_neg h]
          have hq1 : 0 < k → k + 1 = N → q = max p (F.length - MS[k].length) := fun h h2 => by rw [hq]; unfold place; rw [if_pos ⟨h, h2⟩]
          have hq2 : 0 < k → ¬ k + 1 = N → q = seek F MS[k] p := fun h h2 => by rw [hq]; unfold place; rw [if_neg (fun x => h2 x.2), if_pos h]
          generalize MS[k] = m at hse g1 g2 g3 hml hq0 hq1 hq2
          have hse2 := hse
          obtain ⟨pm, cm, rfl, hcm, -⟩ := hse2
          have G1 := Lib.hid g1
          have G2 := Lib.hid g2
          have G3 := Lib.hid g3
          have HQ0 := Lib.hid hq0
          have HQ1 := Lib.hid hq1
          have HQ2 := Lib.hid hq2
          have hcA := (cell_one hG.a).1
          have hfA := (cell_one hG.a).2
          have HSE := Lib.hid hse
          have hFc : ∀ wx, Below w6.heap.size w6 wx → F = [] ∨ ∃ g, pF = some ⟨g, 0, none⟩ ∧ ∀ j (hj : j < F.length), wx.cell? ⟨g, j, none⟩ = some (.string F[j]) := fun wx hb => by
            rcases HFV.out with h | ⟨g, c, h1, -, -, h3⟩
            · exact .inl h
            · injection h1 with h1 _ _
              exact .inr ⟨g, h1, fun j hj => cell_later hb (h3 j hj)⟩
          have hFcap : F.length ≤ cF := by
            rcases HFV.out with h | ⟨g, c, h1, h2, -, -⟩
            · rw [h, List.length_nil]; omega
            · injection h1 with _ _ h3
              omega
          have hHas := fun (r : Nat) (hr : r ≤ F.length) wx (hb : Below w6.heap.size w6 wx) => hasP_any _ _ m (F.drop r) w6.heap.size wx (by omega) (by rw [List.length_drop]; omega) (HSE.out.below hb (Nat.le_refl _)) (sees_drop (hFc wx hb) hFcap hr)
          have HH := Lib.hid hHas
          have hpl1 := hpl.1
          have hpl2 := hpl.2
          clear g1 g2 g3 hq hq0 hq1 hq2 hrel hvk hse hFc hHas hF1 hck HML HFV hpl hkM
          go_upto_block 4 with fail
          go_cut [] (fun wx => GSt wx w6.heap.size (w6.heap.size + 1) (w6.heap.size + 2) out q ∧ Below w6.heap.size w6 wx ∧ w6.heap.size + 2 ≤ wx.heap.size ∧ ¬ (k = 0 ∧ N = 1 ∧ m.length ≠ F.length))
          case first =>
            by_cases h0 : 0 < k
            · have q1 : ((k : Int) == 0) = false := beq_eq_false_iff_ne.2 (by omega)
              have q1b : decide ((0 : Int) < (k : Int)) = true := decide_eq_true (by omega)
              have hnA : Hid (¬ (k = 0 ∧ N = 1 ∧ m.length ≠ F.length)) := fun h => by omega
              by_cases hl : k + 1 = N
              · have q4 : ((k : Int) == (N : Int) - 1) = true := beq_iff_eq.2 (by omega)
                have hqv := HQ1.out h0 hl
                have hmax : max (p : Int) ((F.length : Int) - (m.length : Int)) = (q : Int) := by omega
                obtain ⟨hG2, hb2, hz2⟩ := gst_at hG q hbel (by omega) (by omega) hz (by omega)
                have HG2 := Lib.hid hG2
                have HB2 := Lib.hid hb2
                have HZ2 := Lib.hid hz2
                clear G1 G2 G3 HQ0 HQ1 HQ2 hl hqv hG2 hb2 hz2
                go_wp2
                go_meet
                exact ⟨HG2.out, HB2.out, HZ2.out, hnA.out⟩
              · have q4 : ((k : Int) == (N : Int) - 1) = false := beq_eq_false_iff_ne.2 (by omega)
                have hqv := Lib.hid (HQ2.out h0 hl)
                clear G1 G2 G3 HQ0 HQ1 HQ2 hl hcA hfA
                go_wp2
                go_loopg [] (F.length - p) (fun g wx => ∃ r, r + g = F.length ∧ p ≤ r ∧ GSt wx w6.heap.size (w6.heap.size + 1) (w6.heap.size + 2) out r ∧ Below w6.heap.size w6 wx ∧ w6.heap.size + 2 ≤ wx.heap.size ∧ Hid (q = seek F m r))
                case atStart => exact ⟨p, by omega, by omega, hG, hbel, hz, hqv⟩
                case round =>
                  obtain ⟨r, hrg, hpr, hGr, hbr, hzr, hsr⟩ := hrel
                  clear hG hbel hz hqv
                  have hcA := (cell_one hGr.a).1
                  have hfA := (cell_one hGr.a).2
                  by_cases hr : r < F.length
                  · have hcap := HH.out r (by omega) _ hbr
                    rw [if_neg (show ¬ cF = r by omega), Nat.mul_one] at hcap
                    have z1 : (0 : Int) ≤ (r : Int) := by omega
                    have z2 : (r : Int) ≤ (F.length : Int) := by omega
                    have z3 : (r : Int) < (F.length : Int) := by omega
                    have hne : cF ≠ r := by omega
                    cases hh : hasP m (F.drop r) with
                    | true =>
                      rw [hh] at hcap
                      have HC := Lib.hid hcap
                      have hq := hsr.out
                      rw [seek_stop (.inl hh)] at hq
                      clear hcap hh hsr
                      subst hq
                      go_wp2_with (go_at_call 40; (with_reducible refine HC.out.mono ?_); rintro e w7 ⟨rfl, hb7⟩)
                      go_meet
                      exact ⟨hGr.below hb7, hbr.trans (hb7.mono (by omega)), by have := hb7.size; omega, hnA.out⟩
                    | false =>
                      rw [hh] at hcap
                      have HC := Lib.hid hcap
                      have hd : Hid (q = seek F m (r + 1)) := hsr.out.trans (seek_step hr hh)
                      clear hcap hh hsr
                      go_upto_region 27 with (go_at_call 40; (with_reducible refine HC.out.mono ?_); rintro e w7 ⟨rfl, hb7⟩)
                      have hG7 := hGr.below hb7
                      have hb8 := hbr.trans (hb7.mono (show w6.heap.size ≤ _ by omega))
                      have hz8 : w6.heap.size + 2 ≤ w7.heap.size := by have := hb7.size; omega
                      obtain ⟨hG2, hb2, hz2⟩ := gst_at hG7 (r + 1) hb8 (by omega) (by omega) hz8 (by omega)
                      have hcA := (cell_one hG7.a).1
                      have hfA := (cell_one hG7.a).2
                      have hcast : ((r + 1 : Nat) : Int) = (r : Int) + 1 := by omega
                      rw [hcast] at hG2 hb2 hz2
                      have HG2 := Lib.hid hG2
                      have HB2 := Lib.hid hb2
                      have HZ2 := Lib.hid hz2
                      clear hG2 hb2 hz2 hcast
                      go_wp2
                      go_roundg (F.length - (r + 1))
                      case rel => exact ⟨r + 1, by omega, by omega, HG2.out, HB2.out, HZ2.out, hd⟩
                      case measure => omega
                  · have hq := hsr.out
                    rw [seek_stop (.inr hr)] at hq
                    subst hq
                    clear hsr
                    have z3 : ¬ (q : Int) < (F.length : Int) := by omega
                    go_wp2
                    go_meet
                    exact ⟨hGr, hbr, hzr, hnA.out⟩
            · obtain rfl := HQ0.out h0
              have hk0 : k = 0 := by omega
              subst hk0
              by_cases hN : N = 1
              · by_cases hmF : m.length = F.length
                · have hnA : Hid (¬ (0 = 0 ∧ N = 1 ∧ m.length ≠ F.length)) := fun h => h.2.2 hmF
                  have q5 : ((m.length : Int) != (F.length : Int)) = false := by rw [hmF]; simp
                  have q2 : ((N : Int) == 1) = true := beq_iff_eq.2 (by omega)
                  clear G1 G2 G3 HQ0 HQ1 HQ2 hN hmF
                  go_wp2
                  go_meet
                  exact ⟨hG, hbel, hz, hnA.out⟩
                · obtain rfl := G1.out rfl hN hmF
                  have q5 : ((m.length : Int) != (F.length : Int)) = true := by rw [bne_iff_ne]; omega
                  have q2 : ((N : Int) == 1) = true := beq_iff_eq.2 (by omega)
                  have hpost : Hid (GlobIs none w (.returned (.tuple #[.slice none 0 0, .bool false])) wr) := ⟨rfl, tb6.trans (hbel.mono hz6)⟩
                  clear G1 G2 G3 HQ0 HQ1 HQ2
                  go_wp2
                  go_ret2
                  exact hpost.out
              · have hnA : Hid (¬ (0 = 0 ∧ N = 1 ∧ m.length ≠ F.length)) := fun h => hN h.2.1
                have q2 : ((N : Int) == 1) = false := beq_eq_false_iff_ne.2 (by omega)
                clear G1 G2 G3 HQ0 HQ1 HQ2
                go_wp2
                go_meet
                exact ⟨hG, hbel, hz, hnA.out⟩
          case rest =>
            clear hG hbel hz hcA hfA
            obtain ⟨hG, hbel, hz, hnA⟩ := hcut
            have HnA := Lib.hid hnA
            clear hnA HQ0 HQ1 HQ2 G1
            have hcA := (cell_one hG.a).1
            have hcap := HH.out q hpl2 _ hbel
            obtain ⟨bb, hbb⟩ : ∃ b, b = hasP m (F.drop q) := ⟨_, rfl⟩
            rw [← hbb] at hcap
            have z1 : (0 : Int) ≤ (q : Int) := by omega
            have z2 : (q : Int) ≤ (F.length : Int) := by omega
            go_upto_region 28 with fail
            go_cut [117] (fun bv wx => ∃ b2, bv = .bool b2 ∧ b2 = !bb ∧ Below wc.heap.size wc wx)
            case first =>
              clear hbb
              by_cases hcq : cF = q
              · subst hcq
                rw [if_pos rfl, Nat.sub_self, show F.length - cF = 0 by omega] at hcap
                have HC := Lib.hid hcap
                clear hcap
                go_wp2_with (go_at_call 40; (with_reducible refine HC.out.mono ?_); rintro e w7 ⟨rfl, hb7⟩)
                go_meet
                exact ⟨_, rfl, rfl, hb7⟩
              · rw [if_neg hcq, Nat.mul_one] at hcap
                have HC := Lib.hid hcap
                clear hcap
                go_wp2_with (go_at_call 40; (with_reducible refine HC.out.mono ?_); rintro e w7 ⟨rfl, hb7⟩)
                go_meet
                exact ⟨_, rfl, rfl, hb7⟩
            case rest =>
              obtain ⟨b2, rfl, hb2, hb7⟩ := hcut
              clear hcap hcA
              have hG7 := hG.below hb7
              have hbel7 : Below w6.heap.size w6 wc := hbel.trans (hb7.mono (by omega))
              have hz7 : w6.heap.size + 2 ≤ wc.heap.size := by have := hb7.size; omega
              clear hG hbel hz hb7
              cases b2 with
              | true =>
                have hbf : bb = false := by cases bb; rfl; cases hb2
                obtain rfl := G2.out HnA.out (by rw [← hbb, hbf])
                have hpost : Hid (GlobIs none w (.returned (.tuple #[.slice none 0 0, .bool false])) wc) := ⟨rfl, tb6.trans (hbel7.mono hz6)⟩
                clear G2 G3 hbb hb2 hbf
                go_wp2
                go_ret2
                exact hpost.out
              | false =>
                have hbf : bb = true := by cases bb; cases hb2; rfl
                have hE := G3.out HnA.out (by rw [← hbb, hbf])
                have hpm : q + m.length ≤ F.length := by
                  have := hasP_len _ _ (show hasP m (F.drop q) = true by rw [← hbb, hbf])
                  rw [List.length_drop] at this; omega
                have HE := Lib.hid hE
                clear G2 G3 hbb hb2 hbf hE HnA
                obtain ⟨out2, ho2⟩ : ∃ o, o = out ++ (if 0 < k then [catB ((U.drop p).take (q - p))] else []) := ⟨_, rfl⟩
                have hE2 := HE.out
                rw [← ho2] at hE2
                have HE2 := Lib.hid hE2
                clear HE hE2
                have hol2 : out2.length ≤ k + 1 + p := by rw [ho2]; split <;> simp <;> omega
                have hU7 := cell_later hbel7 hU6
                go_upto_if 119 with fail
                go_cut [] (fun wx => GSt wx w6.heap.size (w6.heap.size + 1) (w6.heap.size + 2) out2 q ∧ Below w6.heap.size w6 wx ∧ w6.heap.size + 2 ≤ wx.heap.size)
                case first =>
                  by_cases h0 : 0 < k
                  · rw [if_pos h0] at ho2
                    have q1b : decide ((0 : Int) < (k : Int)) = true := decide_eq_true (by omega)
                    obtain ⟨⟨vo, ho, hown⟩, ha⟩ := hG7
                    have cO := (cell_one ho).1
                    have cA := (cell_one ha).1
                    have cellU := hU7
                    have hqU : q ≤ U.length := by have := HFU.out; omega
                    have hUc : ∀ wx, Below wc.heap.size wc wx → U = [] ∨ ∃ g, pU = some ⟨g, 0, none⟩ ∧ ∀ j (hj : j < U.length), wx.cell? ⟨g, j, none⟩ = some (.string U[j]) := fun wx hb => by
                      rcases HUV.out with h | ⟨g, c, h1, -, -, h3⟩
                      · exact .inl h
                      · injection h1 with h1 _ _
                        exact .inr ⟨g, h1, fun j hj => cell_later hb (cell_later hbel7 (h3 j hj))⟩
                    have hUcap : U.length ≤ cU := by
                      rcases HUV.out with h | ⟨g, c, h1, h2, -, -⟩
                      · rw [h, List.length_nil]; omega
                      · injection h1 with _ _ h3
                        omega
                    obtain ⟨us, hus⟩ : ∃ us, (U.drop p).take (q - p) = us := ⟨_, rfl⟩
                    rw [hus] at ho2
                    have hJ := fun wx (hb : Below wc.heap.size wc wx) => join0_cut wx (hUc wx hb) hUcap hpl1 hqU (by omega) (by omega) us hus
                    have HO2 := Lib.hid ho2
                    have HJ := Lib.hid hJ
                    clear hUc hU7 HE2 hol2 ho2 hus hJ
                    have hzB : w6.heap.size ≤ wc.heap.size := by omega
                    have z1 : (0 : Int) ≤ (p : Int) := by omega
                    have z2 : (p : Int) ≤ (q : Int) := by omega
                    have z3 : (q : Int) ≤ (cU : Int) := by omega
                    have z4 : (0 : Int) ≤ (q : Int) := by omega
                    by_cases hcp : cU = p
                    · subst hcp
                      have hqc : q = cU := by have := HFU.out; omega
                      subst hqc
                      go_upto_region 31 with fail
                      go_region_law (first
                        | (refine step_str (by rfl) (.tmp 120) (.tmp 126) ssF (by rfl) (w6.heap.size + 2) _ _ (by rfl) (ownsS.alloc hown8 _) ⟨_, 0, none⟩ 1 1 [_] (by rfl) rfl (cells_new _ _ _) (by first | omega | (simp; done) | (simp; omega)) (by first | omega | (simp; done) | (simp; omega)) ?_; intro v9 w9 hown9 hg9; obtain ⟨g6, cap6, n6, rfl⟩ := own_form hown9 (by simp); obtain ⟨cOa, fOa, hG9, hb9, hz9, cAa, hka⟩ := gst_put (w1 := w8) ho8 ha8 hown8 hown9 hg9 hbel8 (Nat.le_refl _) (by omega) (by omega) hzA (by omega); have cUa := hka _ _ _ hbU3 cU8; clear hg9 hka)
                        | (go_simp; go_at_call 41; (refine ((HJ.out _ (by first | exact (Below.refl _ _).drew | exact Below.refl _ _)).2 rfl).mono ?_); rintro e w8 ⟨rfl, hb8⟩; (have cO8 := cell_later hb8 (show wc.drew.cell? _ = _ from cO); have cA8 := cell_later hb8 (show wc.drew.cell? _ = _ from cA); have cU8 := cell_later hb8 (show wc.drew.cell? _ = _ from cellU); have hbA := (Below.refl w8.heap.size w8).alloc (Nat.le_refl _) (.cells #[.string (catB us)] 9); have cO9 := cell_later hbA cO8; have cA9 := cell_later hbA cA8; have cU9 := cell_later hbA cU8; have hzA : w6.heap.size + 2 ≤ w8.heap.size := Nat.le_trans hz7 hb8.size; have hown8 := ownsS.below (show ownsS wc.drew _ _ _ _ from hown) hb8 (Nat.le_refl _); have ho8 := (hb8.block _ (lt_of_block ho)).trans ho; have ha8 := (hb8.block _ (lt_of_block ha)).trans ha; have hbel8 := hbel7.drew.trans (hb8.mono hzB)))
                        | fail)
                      all_goals
                        go_wp2_with fail
                        go_meet
                        exact ⟨by rw [HO2.out]; exact hG9, hb9, hz9⟩
                    · go_upto_region 31 with fail
                      go_region_law (first
                        | (refine step_str (by rfl) (.tmp 120) (.tmp 126) ssF (by rfl) (w6.heap.size + 2) _ _ (by rfl) (ownsS.alloc hown8 _) ⟨_, 0, none⟩ 1 1 [_] (by rfl) rfl (cells_new _ _ _) (by first | omega | (simp; done) | (simp; omega)) (by first | omega | (simp; done) | (simp; omega)) ?_; intro v9 w9 hown9 hg9; obtain ⟨g6, cap6, n6, rfl⟩ := own_form hown9 (by simp); obtain ⟨cOa, fOa, hG9, hb9, hz9, cAa, hka⟩ := gst_put (w1 := w8) ho8 ha8 hown8 hown9 hg9 hbel8 (Nat.le_refl _) (by omega) (by omega) hzA (by omega); have cUa := hka _ _ _ hbU3 cU8; clear hg9 hka)
                        | (go_simp; go_at_call 41; (refine ((HJ.out _ (by first | exact (Below.refl _ _).drew | exact Below.refl _ _)).1 hcp).mono ?_); rintro e w8 ⟨rfl, hb8⟩; (have cO8 := cell_later hb8 (show wc.drew.cell? _ = _ from cO); have cA8 := cell_later hb8 (show wc.drew.cell? _ = _ from cA); have cU8 := cell_later hb8 (show wc.drew.cell? _ = _ from cellU); have hbA := (Below.refl w8.heap.size w8).alloc (Nat.le_refl _) (.cells #[.string (catB us)] 9); have cO9 := cell_later hbA cO8; have cA9 := cell_later hbA cA8; have cU9 := cell_later hbA cU8; have hzA : w6.heap.size + 2 ≤ w8.heap.size := Nat.le_trans hz7 hb8.size; have hown8 := ownsS.below (show ownsS wc.drew _ _ _ _ from hown) hb8 (Nat.le_refl _); have ho8 := (hb8.block _ (lt_of_block ho)).trans ho; have ha8 := (hb8.block _ (lt_of_block ha)).trans ha; have hbel8 := hbel7.drew.trans (hb8.mono hzB)))
                        | fail)
                      all_goals
                        go_wp2_with fail
                        go_meet
                        exact ⟨by rw [HO2.out]; exact hG9, hb9, hz9⟩
                  · rw [if_neg h0, List.append_nil] at ho2
                    have q1b : decide ((0 : Int) < (k : Int)) = false := decide_eq_false (by omega)
                    have HO2 := Lib.hid ho2
                    clear HE2 ho2
                    go_wp2
                    go_meet
                    exact ⟨by rw [HO2.out]; exact hG7, hbel7, hz7⟩
                case rest =>
                  clear hG7 hbel7 hz7 ho2 hU7
                  obtain ⟨hG9, hb9, hz9⟩ := hcut
                  have hse9 := HSE.out.below hb9 (Nat.le_refl _)
                  have hUV9 : UV wc w6.heap.size (.slice pU U.length cU) U := by
                    rcases HUV.out with h | ⟨g, c, h1, h2, h4, h3⟩
                    · exact .inl h
                    · exact .inr ⟨g, c, h1, h2, by omega, fun j hj => cell_later hb9 (h3 j hj)⟩
                  have hF2 := HFU.out
                  have cUs := cell_later hb9 hU6
                  have hcons := cons_any (.slice pm m.length cm) (.slice pU U.length cU) m U w6.heap.size w3.heap.size (w6.heap.size + 1) (w6.heap.size + 2) w6.heap.size q out2 wc (by omega) (by omega) (by omega) (by omega) hse9 hUV9 cUs hbU3 hG9 (Nat.le_refl _) (by omega) (by omega) (by omega) hz9 (by omega)
                  have HCN := Lib.hid hcons
                  have hal := anyL_len m (U.drop q)
                  clear hcons hse9 hUV9 hF2
                  go_wp2_with (go_at_call 39; (with_reducible refine HCN.out.mono ?_); rintro e w10 ⟨rfl, hG10, hb10⟩)
                  go_roundg (N - (k + 1))
                  case rel => exact ⟨k + 1, q + m.length, _, by omega, by go_num, hG10, hb9.trans hb10, Nat.le_trans hz9 hb10.size, by omega, by rw [List.length_append]; omega, HE2.out⟩
                  case measure => omega
        · have hkN : k = N := by omega
          have hend := glob_end hrel.out (by omega)
          subst hend
          obtain ⟨⟨vo, ho, hown⟩, ha⟩ := hG
          have cO := (cell_one ho).1
          have hpost : Hid (GlobIs (some out) w (.returned (.tuple #[vo, .bool true])) wr) := ⟨vo, rfl, ownsS.base hown (by omega), tb6.trans (hbel.mono hz6)⟩
          clear hkN hrel ho hown ha hck HML HFV HUV
          go_wp2
          go_ret2
          exact hpost.out
end Go.Proofs.YtlbnhkojfefccaaDoor
