/- Plain: dates: Read gives back what was written; what Read says of any text. -/
import Derived.Test.YtlgnhngbmciaoaaDoorDtW
namespace Dt
open Go Go.RowKit Pk

theorem clk_map {h mi s : Nat} (hh : h < 100) (hm : mi < 100) (hs : s < 100) : (clkW h mi s).map fD = clkW h mi s := by
  unfold clkW
  rw [List.map_append, List.map_cons, List.map_append, List.map_cons, map_isD (d2_isD hh), map_isD (d2_isD hm), map_isD (d2_isD hs)]
  rfl
theorem zon_map {z : Int} (hz : z.natAbs < 6000) : (zonW z).map fD = zonW z := by
  unfold zonW
  rw [List.map_cons, List.map_append, map_isD (d2_isD (by omega)), map_isD (d2_isD (by omega))]
  split <;> rfl
theorem dat_map {w d m y h mi s : Nat} {z : Int} (hw : w < 7) (hd : d < 100) (hm1 : 1 ≤ m) (hm : m ≤ 12) (hy : y < 10000) (hh : h < 100) (hmi : mi < 100) (hs : s < 100) (hz : z.natAbs < 6000) :
    plD 0 (dateW w d m y h mi s z) = datS w d m y h mi s z := by
  obtain ⟨w1, w2, w3, -, -⟩ := wd_small w hw
  obtain ⟨m1, m2, m3, -, -⟩ := mo_small (m - 1) (by omega)
  have c1 : ∀ c ∈ clkW h mi s, c ≠ 40 := fun c hc => by
    unfold clkW at hc
    rcases List.mem_append.1 hc with h1 | h1
    · exact isD_ne (d2_isD hh c h1)
    · rcases List.mem_cons.1 h1 with rfl | h1
      · decide
      · rcases List.mem_append.1 h1 with h1 | h1
        · exact isD_ne (d2_isD hmi c h1)
        · rcases List.mem_cons.1 h1 with rfl | h1
          · decide
          · exact isD_ne (d2_isD hs c h1)
  have c2 : ∀ c ∈ zonW z, c ≠ 40 := fun c hc => by
    unfold zonW at hc
    rcases List.mem_cons.1 hc with rfl | h1
    · split <;> decide
    · rcases List.mem_append.1 h1 with h1 | h1
      · exact isD_ne (d2_isD (by omega) c h1)
      · exact isD_ne (d2_isD (by omega) c h1)
  have hno : ∀ c ∈ dateW w d m y h mi s z, c ≠ 40 := fun c hc => by
    unfold dateW at hc
    rcases List.mem_append.1 hc with h1 | h1
    · exact w2 c h1
    · rcases List.mem_cons.1 h1 with rfl | h1
      · decide
      · rcases List.mem_cons.1 h1 with rfl | h1
        · decide
        · rcases List.mem_append.1 h1 with h1 | h1
          · exact isD_ne (d2_isD hd c h1)
          · rcases List.mem_cons.1 h1 with rfl | h1
            · decide
            · rcases List.mem_append.1 h1 with h1 | h1
              · exact m2 c h1
              · rcases List.mem_cons.1 h1 with rfl | h1
                · decide
                · rcases List.mem_append.1 h1 with h1 | h1
                  · exact isD_ne (d4_isD hy c h1)
                  · rcases List.mem_cons.1 h1 with rfl | h1
                    · decide
                    · rcases List.mem_append.1 h1 with h1 | h1
                      · exact c1 c h1
                      · rcases List.mem_cons.1 h1 with rfl | h1
                        · decide
                        · exact c2 c h1
  rw [plD_map _ hno]
  unfold dateW datS
  simp only [List.map_append, List.map_cons]
  rw [w1, m1, map_isD (d2_isD hd), map_isD (d4_isD hy), clk_map hh hmi hs, zon_map hz]
  rfl
theorem dat_low {w d m y h mi s : Nat} {z : Int} (hw : w < 7) (hd : d < 100) (hm1 : 1 ≤ m) (hm : m ≤ 12) (hy : y < 10000) (hh : h < 100) (hmi : mi < 100) (hs : s < 100) (hz : z.natAbs < 6000) : ∀ c ∈ datS w d m y h mi s z, c.toNat < 128 := by
  obtain ⟨-, -, w3, -, -⟩ := wd_small w hw
  obtain ⟨-, -, m3, -, -⟩ := mo_small (m - 1) (by omega)
  have c1 : ∀ c ∈ clkW h mi s, c.toNat < 128 := fun c hc => by
    unfold clkW at hc
    rcases List.mem_append.1 hc with h1 | h1
    · exact isD_low (d2_isD hh c h1)
    · rcases List.mem_cons.1 h1 with rfl | h1
      · decide
      · rcases List.mem_append.1 h1 with h1 | h1
        · exact isD_low (d2_isD hmi c h1)
        · rcases List.mem_cons.1 h1 with rfl | h1
          · decide
          · exact isD_low (d2_isD hs c h1)
  have c2 : ∀ c ∈ zonW z, c.toNat < 128 := fun c hc => by
    unfold zonW at hc
    rcases List.mem_cons.1 hc with rfl | h1
    · split <;> decide
    · rcases List.mem_append.1 h1 with h1 | h1
      · exact isD_low (d2_isD (by omega) c h1)
      · exact isD_low (d2_isD (by omega) c h1)
  intro c hc
  unfold datS at hc
  rcases List.mem_append.1 hc with h1 | h1
  · exact (w3 c h1).2
  · rcases List.mem_cons.1 h1 with rfl | h1
    · decide
    · rcases List.mem_cons.1 h1 with rfl | h1
      · decide
      · rcases List.mem_append.1 h1 with h1 | h1
        · exact isD_low (d2_isD hd c h1)
        · rcases List.mem_cons.1 h1 with rfl | h1
          · decide
          · rcases List.mem_append.1 h1 with h1 | h1
            · exact (m3 c h1).2
            · rcases List.mem_cons.1 h1 with rfl | h1
              · decide
              · rcases List.mem_append.1 h1 with h1 | h1
                · exact isD_low (d4_isD hy c h1)
                · rcases List.mem_cons.1 h1 with rfl | h1
                  · decide
                  · rcases List.mem_append.1 h1 with h1 | h1
                    · exact c1 c h1
                    · rcases List.mem_cons.1 h1 with rfl | h1
                      · decide
                      · exact c2 c h1
theorem read_date {w d m y h mi s : Nat} {z : Int} (hw : w < 7) (ho : okD ⟨y, m, d⟩) (hh : h < 24) (hmi : mi < 60) (hs : s < 60) (hz0 : -1439 ≤ z) (hz1 : z ≤ 1439)
    (hr : rightL (cntL y m d * 86400 + (3600 * (h : Int) + 60 * (mi : Int) + (s : Int)) - 60 * z) z = true) :
    readL (dateW w d m y h mi s z) = some (cntL y m d * 86400 + (3600 * (h : Int) + 60 * (mi : Int) + (s : Int)) - 60 * z, z) := by
  have ho' := ho
  obtain ⟨o1, o2, o3, o4, o5, o6⟩ := ho
  simp only at o1 o2 o3 o4 o5 o6
  have hml := mlen_le (y : Int) (m : Int)
  have hd : d < 100 := by omega
  have hm1 : 1 ≤ m := by omega
  have hm : m ≤ 12 := by omega
  have hy : y < 10000 := by omega
  have hz : z.natAbs < 6000 := by omega
  have hf : fieldsD (dateW w d m y h mi s z) = [(wdays[w]?).getD [], d2 d, (mons[m - 1]?).getD [], d4 y, clkW h mi s, zonW z] := by
    unfold fieldsD
    rw [dat_map hw hd hm1 hm hy (by omega) (by omega) (by omega) hz, fields_asc _ _ (dat_low hw hd hm1 hm hy (by omega) (by omega) (by omega) hz), datS_fields hw hd hm1 hm hy (by omega) (by omega) (by omega) hz]
  obtain ⟨-, -, -, -, w5⟩ := wd_small w hw
  obtain ⟨-, -, -, -, m5⟩ := mo_small (m - 1) (by omega)
  have m5 : monL ((mons[m - 1]?).getD []) = m := by rw [m5]; omega
  have hnd : noDay [(wdays[w]?).getD [], d2 d, (mons[m - 1]?).getD [], d4 y, clkW h mi s, zonW z] = [d2 d, (mons[m - 1]?).getD [], d4 y, clkW h mi s, zonW z] := by
    show (if wdays.contains ((wdays[w]?).getD []) = true then _ else _) = _
    rw [if_pos w5]
  unfold readL readF
  rw [hf, hnd]
  show read5 (d2 d) ((mons[m - 1]?).getD []) (d4 y) (clkW h mi s) (zonW z) = _
  have hdays := days_ok ho'
  simp only at hdays
  have hrng := cnt_rng ho'
  simp only at hrng
  have hciv : civL (cntL y m d) = ⟨y, m, d⟩ := by
    have hcc := civ_cnt ho'
    simp only at hcc
    rw [civL_in hrng, hcc]
  have hdn : dayN (d2 d) ((mons[m - 1]?).getD []) (d4 y) (clkW h mi s) (zonW z) = cntL y m d := by
    unfold dayN
    rw [m5, dig2 hd (by omega) (Nat.le_refl _), year_W hy, clock_W hh hmi hs, zone_W hz0 hz1]
    have hy1 : (0 : Int) < (y : Int) := by omega
    have hm0 : 0 < m := by omega
    exact (if_pos ⟨rfl, rfl, rfl, rfl, hm0, hy1⟩).trans hdays
  unfold read5
  rw [hdn, m5, dig2 hd (by omega) (Nat.le_refl _), year_W hy, clock_W hh hmi hs, zone_W hz0 hz1]
  exact if_pos ⟨hciv, ⟨rfl, rfl, rfl, rfl⟩, hr⟩
/-- what is read of any text -/
theorem digF_rng : ∀ (s : List UInt8) (n : Int), 0 ≤ n → (digF n s).2 = true → 0 ≤ (digF n s).1
  | [], n, h, _ => h
  | c :: r, n, h, ht => by
    unfold digF at ht ⊢
    split
    · exact Int.le_refl _
    · rename_i hc
      rw [if_neg hc] at ht
      exact digF_rng r _ (by omega) ht
theorem digL_rng (a b : Nat) (s : List UInt8) (h : (digL a b s).2 = true) : 0 ≤ (digL a b s).1 := by
  unfold digL at h ⊢
  split
  · exact Int.le_refl _
  · rename_i hc
    rw [if_neg hc] at h
    exact digF_rng _ _ (Int.le_refl _) h
theorem clock3_rng (a b c : List UInt8) (h : (clock3 a b c).2 = true) : 0 ≤ (clock3 a b c).1 ∧ (clock3 a b c).1 < 86400 := by
  unfold clock3 at h ⊢
  simp only [Bool.and_eq_true, decide_eq_true_eq] at h
  obtain ⟨h1, h2, h3, h4, h5, h6⟩ := h
  have a1 := digL_rng _ _ _ h1
  have a2 := digL_rng _ _ _ h2
  have a3 := digL_rng _ _ _ h3
  simp only
  omega
theorem clock_rng (s : List UInt8) (h : (clockL s).2 = true) : 0 ≤ (clockL s).1 ∧ (clockL s).1 < 86400 := by
  unfold clockL at h ⊢
  generalize colons [] s = L at *
  cases L with
  | nil => exact ⟨Int.le_refl _, by show (0 : Int) < 86400; decide⟩
  | cons a L => cases L with
    | nil => exact ⟨Int.le_refl _, by show (0 : Int) < 86400; decide⟩
    | cons b L => cases L with
      | nil => exact clock3_rng _ _ _ h
      | cons c L => cases L with
        | nil => exact clock3_rng _ _ _ h
        | cons d L => exact ⟨Int.le_refl _, by show (0 : Int) < 86400; decide⟩
theorem read5_some {a b c d e : List UInt8} {u z : Int} (h : read5 a b c d e = some (u, z)) : rightL u z = true ∧ ∃ n s : Int, u + 60 * z = n * 86400 + s ∧ 0 ≤ s ∧ s < 86400 ∧ -719162 ≤ n ∧ n ≤ 2932896 := by
  unfold read5 at h
  split at h
  · rename_i hc
    obtain ⟨h1, ⟨h2, h3, h4, h5⟩, h6⟩ := hc
    injection h with h
    injection h with hu hz
    rw [hu, hz] at h6
    refine ⟨h6, ?_⟩
    obtain ⟨c1, c2⟩ := clock_rng d h4
    refine ⟨dayN a b c d e, (clockL d).1, by rw [← hu, ← hz]; omega, c1, c2, ?_⟩
    unfold dayN at h1 ⊢
    by_cases hin : (digL 1 2 a).2 = true ∧ (yearL c).2 = true ∧ (clockL d).2 = true ∧ (zoneL e).2 = true ∧ 0 < monL b ∧ 0 < (yearL c).1
    · rw [if_pos hin] at h1 ⊢
      by_cases hr : -719162 ≤ daysL (yearL c).1 (monL b) (digL 1 2 a).1 ∧ daysL (yearL c).1 (monL b) (digL 1 2 a).1 ≤ 2932896
      · exact hr
      · rw [civL_out hr] at h1
        injection h1 with g1 g2 g3
        omega
    · rw [if_neg hin]; omega
  · cases h
theorem read_some {s : List UInt8} {u z : Int} (h : readL s = some (u, z)) : rightL u z = true ∧ -719162 ≤ locD u z ∧ locD u z ≤ 2932896 := by
  have key : ∃ a b c d e, read5 a b c d e = some (u, z) := by
    unfold readL readF at h
    split at h
    · exact ⟨_, _, _, _, _, h⟩
    · exact ⟨_, _, _, _, _, h⟩
    · cases h
  obtain ⟨a, b, c, d, e, h⟩ := key
  obtain ⟨h1, n, s, h2, h3, h4, h5, h6⟩ := read5_some h
  refine ⟨h1, ?_⟩
  unfold locD
  rw [h2]
  omega
/-- what a time is written as -/
def writeL (u z : Int) : List UInt8 := if partL u z 1 = 0 then [] else
  dateW (partL u z 7).toNat (partL u z 3).toNat (partL u z 2).toNat (partL u z 1).toNat (partL u z 4).toNat (partL u z 5).toNat (partL u z 6).toNat z
theorem part_year {u z : Int} (hr : rightL u z = true) : partL u z 1 = (civL (locD u z)).y := by unfold partL; rw [if_pos hr, if_pos rfl]
theorem year_in {u z : Int} (hr : rightL u z = true) : partL u z 1 ≠ 0 ↔ (-719162 ≤ locD u z ∧ locD u z ≤ 2932896) := by
  rw [part_year hr]
  constructor
  · intro h
    by_cases hin : -719162 ≤ locD u z ∧ locD u z ≤ 2932896
    · exact hin
    · rw [civL_out hin] at h; exact absurd rfl h
  · intro hin
    have := (civ_day hin.1 hin.2).1.1
    omega
theorem read_write {u z : Int} (hr : rightL u z = true) (hy : partL u z 1 ≠ 0) : readL (writeL u z) = some (u, z) ∧ (writeL u z).length = 31 := by
  have hin := (year_in hr).1 hy
  obtain ⟨ho, hday⟩ := civ_day hin.1 hin.2
  have hdy := days_ok ho
  rw [hday] at hdy
  have p2 : partL u z 2 = (civL (locD u z)).m := by unfold partL; rw [if_pos hr]; rfl
  have p3 : partL u z 3 = (civL (locD u z)).d := by unfold partL; rw [if_pos hr]; rfl
  have p4 : partL u z 4 = locS u z / 3600 := by unfold partL; rw [if_pos hr]; rfl
  have p5 : partL u z 5 = locS u z / 60 % 60 := by unfold partL; rw [if_pos hr]; rfl
  have p6 : partL u z 6 = locS u z % 60 := by unfold partL; rw [if_pos hr]; rfl
  have p7 : partL u z 7 = wkL (locD u z) := by unfold partL; rw [if_pos hr]; rfl
  obtain ⟨s1, s2, s3⟩ := secs u z
  have hw := wk_rng (locD u z)
  have hz := (right_iff u z).1 hr
  unfold writeL
  rw [if_neg hy, p2, p3, p4, p5, p6, p7, part_year hr]
  generalize civL (locD u z) = x at *
  obtain ⟨xy, xm, xd⟩ := x
  obtain ⟨o1, o2, o3, o4, o5, o6⟩ := ho
  simp only at *
  have cy : ((xy.toNat : Nat) : Int) = xy := Int.toNat_of_nonneg (by omega)
  have cm : ((xm.toNat : Nat) : Int) = xm := Int.toNat_of_nonneg (by omega)
  have cd : ((xd.toNat : Nat) : Int) = xd := Int.toNat_of_nonneg (by omega)
  have hu : u = locD u z * 86400 + locS u z - 60 * z := by unfold locD locS; omega
  have e : cntL (xy.toNat : Int) (xm.toNat : Int) (xd.toNat : Int) * 86400 + (3600 * ((locS u z / 3600).toNat : Int) + 60 * ((locS u z / 60 % 60).toNat : Int) + ((locS u z % 60).toNat : Int)) - 60 * z = u := by
    rw [cy, cm, cd, ← hdy]
    generalize locS u z = q at *
    generalize locD u z = n at *
    omega
  have hrd := read_date (w := (wkL (locD u z)).toNat) (d := xd.toNat) (m := xm.toNat) (y := xy.toNat) (h := (locS u z / 3600).toNat) (mi := (locS u z / 60 % 60).toNat) (s := (locS u z % 60).toNat) (z := z) (by omega)
    (by rw [cy, cm, cd]; exact ⟨o1, o2, o3, o4, o5, o6⟩) (by omega) (by omega) (by omega) hz.2.2.1 hz.2.2.2 (by rw [e]; exact hr)
  rw [e] at hrd
  refine ⟨hrd, ?_⟩
  have l1 : ∀ w : Nat, w < 7 → ((wdG[w]?).getD []).length = 3 := by decide
  have l2 : ∀ m : Nat, m < 12 → ((moG[m]?).getD []).length = 3 := by decide
  unfold dateW clkW zonW d2 d4
  simp only [List.length_append, List.length_cons, List.length_nil]
  rw [l1 _ (by omega), l2 _ (by omega)]
end Dt
