/- Plain: dates: a date that was written is read again. -/
import Derived.Test.YtlgnhngbmciaoaaDoorDtZ
import Derived.Test.YtlgnhngbmciaoaaDoorDtF
namespace Dt
open Go Go.RowKit Pk

def dg (k : Nat) : UInt8 := UInt8.ofNat (48 + k)
theorem dg_nat {k : Nat} (h : k < 10) : (dg k).toNat = 48 + k := by unfold dg; rw [UInt8.toNat_ofNat']; omega
def d2 (n : Nat) : List UInt8 := [dg (n / 10), dg (n % 10)]
def d4 (n : Nat) : List UInt8 := [dg (n / 1000), dg (n / 100 % 10), dg (n / 10 % 10), dg (n % 10)]
theorem digF_dg (n : Int) {k : Nat} (h : k < 10) (r : List UInt8) : digF n (dg k :: r) = digF (10 * n + k) r := by
  conv => lhs; unfold digF
  rw [dg_nat h, if_neg (by omega)]
  congr 1
  omega
theorem dig2 {n a b : Nat} (h : n < 100) (ha : a ≤ 2) (hb : 2 ≤ b) : digL a b (d2 n) = ((n : Int), true) := by
  unfold digL d2
  rw [if_neg (by simp; omega), digF_dg 0 (by omega), digF_dg _ (by omega)]
  unfold digF
  congr 1
  omega
theorem dig4 {n : Nat} (h : n < 10000) : digL 2 4 (d4 n) = ((n : Int), true) := by
  unfold digL d4
  rw [if_neg (by simp), digF_dg 0 (by omega), digF_dg _ (by omega), digF_dg _ (by omega), digF_dg _ (by omega)]
  unfold digF
  congr 1
  omega
/-- a byte of a number -/
def isD (c : UInt8) : Prop := 48 ≤ c.toNat ∧ c.toNat ≤ 57
theorem dg_isD {k : Nat} (h : k < 10) : isD (dg k) := by unfold isD; rw [dg_nat h]; omega
theorem d2_isD {n : Nat} (h : n < 100) : ∀ c ∈ d2 n, isD c := fun c hc => by
  unfold d2 at hc
  simp only [List.mem_cons, List.not_mem_nil, or_false] at hc
  rcases hc with rfl | rfl <;> exact dg_isD (by omega)
theorem d4_isD {n : Nat} (h : n < 10000) : ∀ c ∈ d4 n, isD c := fun c hc => by
  unfold d4 at hc
  simp only [List.mem_cons, List.not_mem_nil, or_false] at hc
  rcases hc with rfl | rfl | rfl | rfl <;> exact dg_isD (by omega)
def fD (c : UInt8) : UInt8 := if c = 44 then 32 else if 65 ≤ c.toNat ∧ c.toNat ≤ 90 then c + 32 else c
theorem plD_map : ∀ l : List UInt8, (∀ c ∈ l, c ≠ 40) → plD 0 l = l.map fD
  | [], _ => rfl
  | [c], h => by
    have hc := h c (List.mem_cons_self ..)
    unfold plD fD
    rw [if_neg (by omega), if_neg hc, if_neg (by omega)]
    rw [List.map_cons, List.map_nil]
    split
    · rfl
    · split <;> rfl
  | c :: d :: r, h => by
    have hc := h c (List.mem_cons_self ..)
    have ih := plD_map (d :: r) (fun e he => h e (List.mem_cons_of_mem _ he))
    unfold plD
    rw [if_neg (by omega), if_neg hc, if_neg (by omega), ih]
    rw [List.map_cons (a := c)]
    unfold fD
    split
    · rfl
    · split <;> rfl
theorem fD_isD {c : UInt8} (h : isD c) : fD c = c := by
  unfold isD at h
  unfold fD
  rw [if_neg (fun e => by rw [e] at h; revert h; decide), if_neg (by omega)]
theorem map_isD : ∀ {l : List UInt8}, (∀ c ∈ l, isD c) → l.map fD = l
  | [], _ => rfl
  | c :: r, h => by rw [List.map_cons, fD_isD (h c (List.mem_cons_self ..)), map_isD (fun d hd => h d (List.mem_cons_of_mem _ hd))]
theorem isD_blk {c : UInt8} (h : isD c) : blkR c.toNat = false := by
  unfold isD at h
  unfold blkR
  have e1 : (c.toNat == 32) = false := beq_eq_false_iff_ne.2 (by omega)
  have e2 : (c.toNat == 9) = false := beq_eq_false_iff_ne.2 (by omega)
  have e3 : (c.toNat == 13) = false := beq_eq_false_iff_ne.2 (by omega)
  have e4 : (c.toNat == 10) = false := beq_eq_false_iff_ne.2 (by omega)
  rw [e1, e2, e3, e4]; rfl
def wdG : List (List UInt8) := [[83, 117, 110], [77, 111, 110], [84, 117, 101], [87, 101, 100], [84, 104, 117], [70, 114, 105], [83, 97, 116]]
def moG : List (List UInt8) := [[74, 97, 110], [70, 101, 98], [77, 97, 114], [65, 112, 114], [77, 97, 121], [74, 117, 110], [74, 117, 108], [65, 117, 103], [83, 101, 112], [79, 99, 116], [78, 111, 118], [68, 101, 99]]
/-- the clock and the zone as they are written -/
def clkW (h m s : Nat) : List UInt8 := d2 h ++ 58 :: (d2 m ++ 58 :: d2 s)
def zonW (z : Int) : List UInt8 := (if z < 0 then 45 else 43) :: (d2 (z.natAbs / 60) ++ d2 (z.natAbs % 60))
def dateW (w : Nat) (d m y h mi s : Nat) (z : Int) : List UInt8 :=
  (wdG[w]?).getD [] ++ 44 :: 32 :: (d2 d ++ 32 :: ((moG[m - 1]?).getD [] ++ 32 :: (d4 y ++ 32 :: (clkW h mi s ++ 32 :: zonW z))))
theorem colons_num : ∀ (x cur r : List UInt8), (∀ c ∈ x, isD c) → colons cur (x ++ 58 :: r) = (cur ++ x) :: colons [] r
  | [], cur, r, _ => by rw [List.nil_append, colons, if_pos rfl, List.append_nil]
  | c :: x, cur, r, h => by
    have hc := h c (List.mem_cons_self ..)
    rw [List.cons_append, colons, if_neg (fun e => by rw [e] at hc; revert hc; unfold isD; decide), colons_num x _ r (fun d hd => h d (List.mem_cons_of_mem _ hd))]
    simp
theorem colons_last : ∀ (x cur : List UInt8), (∀ c ∈ x, isD c) → colons cur x = [cur ++ x]
  | [], cur, _ => by rw [colons, List.append_nil]
  | c :: x, cur, h => by
    have hc := h c (List.mem_cons_self ..)
    rw [colons, if_neg (fun e => by rw [e] at hc; revert hc; unfold isD; decide), colons_last x _ (fun d hd => h d (List.mem_cons_of_mem _ hd))]
    simp
theorem clock_W {h m s : Nat} (hh : h < 24) (hm : m < 60) (hs : s < 60) : clockL (clkW h m s) = (3600 * (h : Int) + 60 * (m : Int) + (s : Int), true) := by
  unfold clockL clkW
  rw [colons_num _ _ _ (d2_isD (by omega)), colons_num _ _ _ (d2_isD (by omega)), colons_last _ _ (d2_isD (by omega))]
  simp only [List.nil_append]
  unfold clock3
  rw [dig2 (by omega) (Nat.le_refl _) (Nat.le_refl _), dig2 (by omega) (Nat.le_refl _) (Nat.le_refl _), dig2 (by omega) (Nat.le_refl _) (Nat.le_refl _)]
  simp only
  rw [decide_eq_true (by omega), decide_eq_true (by omega), decide_eq_true (by omega), Int.min_eq_left (by omega)]
  rfl
theorem zone_W {z : Int} (h0 : -1439 ≤ z) (h1 : z ≤ 1439) : zoneL (zonW z) = (z, true) := by
  have hz : z.natAbs ≤ 1439 := by omega
  have e1 : (zonW z).length = 5 := by unfold zonW d2; simp
  have e2 : ((zonW z).drop 1).take 2 = d2 (z.natAbs / 60) := by unfold zonW d2; rfl
  have e3 : (zonW z).drop 3 = d2 (z.natAbs % 60) := by unfold zonW d2; rfl
  have e4 : (zonW z).head? = some (if z < 0 then 45 else 43) := rfl
  unfold zoneL
  rw [e1, e2, e3, e4, dig2 (by omega) (Nat.le_refl _) (Nat.le_refl _), dig2 (by omega) (Nat.le_refl _) (Nat.le_refl _)]
  simp only
  by_cases hn : z < 0
  · rw [if_pos hn, if_pos ⟨trivial, .inr rfl⟩, if_pos rfl, decide_eq_true (by omega), decide_eq_true (by omega)]
    congr 1
    omega
  · rw [if_neg hn, if_pos ⟨trivial, .inl rfl⟩, if_neg (by decide), decide_eq_true (by omega), decide_eq_true (by omega)]
    congr 1
    omega
theorem year_W {y : Nat} (h : y < 10000) : yearL (d4 y) = ((y : Int), true) := by
  unfold yearL
  rw [dig4 h]
  have e : (d4 y).length = 4 := rfl
  rw [e, if_neg (by omega), if_neg (by omega)]
/-- what stands in a written date after commas and capitals are gone -/
def datS (w : Nat) (d m y h mi s : Nat) (z : Int) : List UInt8 :=
  (wdays[w]?).getD [] ++ 32 :: 32 :: (d2 d ++ 32 :: ((mons[m - 1]?).getD [] ++ 32 :: (d4 y ++ 32 :: (clkW h mi s ++ 32 :: zonW z))))
theorem wd_small : ∀ w : Nat, w < 7 → ((wdG[w]?).getD []).map fD = (wdays[w]?).getD [] ∧ (∀ c ∈ (wdG[w]?).getD [], c ≠ 40) ∧ (∀ c ∈ (wdays[w]?).getD [], blkR c.toNat = false ∧ c.toNat < 128) ∧ (wdays[w]?).getD [] ≠ [] ∧ wdays.contains ((wdays[w]?).getD []) = true := by decide +kernel
theorem mo_small : ∀ m : Nat, m < 12 → ((moG[m]?).getD []).map fD = (mons[m]?).getD [] ∧ (∀ c ∈ (moG[m]?).getD [], c ≠ 40) ∧ (∀ c ∈ (mons[m]?).getD [], blkR c.toNat = false ∧ c.toNat < 128) ∧ (mons[m]?).getD [] ≠ [] ∧ monL ((mons[m]?).getD []) = m + 1 := by decide +kernel
/-- the fields of a written date -/
theorem datS_fields {w d m y h mi s : Nat} {z : Int} (hw : w < 7) (hd : d < 100) (hm1 : 1 ≤ m) (hm : m ≤ 12) (hy : y < 10000) (hh : h < 100) (hmi : mi < 100) (hs : s < 100) (hz : z.natAbs < 6000) :
    fb blkR none (datS w d m y h mi s z) = [(wdays[w]?).getD [], d2 d, (mons[m - 1]?).getD [], d4 y, clkW h mi s, zonW z] := by
  obtain ⟨-, -, w3, w4, -⟩ := wd_small w hw
  obtain ⟨-, -, m3, m4, -⟩ := mo_small (m - 1) (by omega)
  have hb : blkR (32 : UInt8).toNat = true := rfl
  have c1 : ∀ c ∈ clkW h mi s, blkR c.toNat = false := fun c hc => by
    unfold clkW at hc
    rcases List.mem_append.1 hc with h1 | h1
    · exact isD_blk (d2_isD hh c h1)
    · rcases List.mem_cons.1 h1 with rfl | h1
      · decide
      · rcases List.mem_append.1 h1 with h1 | h1
        · exact isD_blk (d2_isD hmi c h1)
        · rcases List.mem_cons.1 h1 with rfl | h1
          · decide
          · exact isD_blk (d2_isD hs c h1)
  have c2 : ∀ c ∈ zonW z, blkR c.toNat = false := fun c hc => by
    unfold zonW at hc
    rcases List.mem_cons.1 hc with rfl | h1
    · split <;> decide
    · rcases List.mem_append.1 h1 with h1 | h1
      · exact isD_blk (d2_isD (by omega) c h1)
      · exact isD_blk (d2_isD (by omega) c h1)
  unfold datS
  rw [fb_next blkR _ _ 32 (fun c hc => (w3 c hc).1) w4 hb, fb_skip blkR _ 32 hb, fb_next blkR _ _ 32 (fun c hc => isD_blk (d2_isD hd c hc)) (by unfold d2; simp) hb,
    fb_next blkR _ _ 32 (fun c hc => (m3 c hc).1) m4 hb, fb_next blkR _ _ 32 (fun c hc => isD_blk (d4_isD hy c hc)) (by unfold d4; simp) hb,
    fb_next blkR _ _ 32 c1 (by unfold clkW d2; simp) hb, fb_last blkR _ c2 (by unfold zonW; simp)]
theorem isD_ne {c : UInt8} (h : isD c) : c ≠ 40 := fun e => by rw [e] at h; revert h; unfold isD; decide
theorem isD_low {c : UInt8} (h : isD c) : c.toNat < 128 := by unfold isD at h; omega
end Dt
