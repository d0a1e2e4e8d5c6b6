/- Plain: encoding a text in encoded words; what decoding gives back. -/
import Derived.Test.YtnclbbgdfaeilaaGreatDoorWdA
import Derived.Test.YtnclbbgdfaeilaaGreatDoorPlain6
import Derived.Test.YtnclbbgdfaeilaaGreatDoorP30
namespace Wd
open Go Pk U8 Cs C6

def okB (c : UInt8) : Bool := decide (32 ≤ c.toNat) && decide (c.toNat ≤ 126)
def plainS (l : List UInt8) : Bool := noEq l && l.all okB
def pack : List UInt8 → List (List UInt8) → List (List UInt8)
  | o, [] => [o]
  | o, q :: r => if 63 < o.length + q.length then o :: pack q r else pack (o ++ q) r
def utfN : List UInt8 := [117, 116, 102, 45, 56]
def wrapW (w : List UInt8) : List UInt8 := [61, 63, 117, 116, 102, 45, 56, 63, 81, 63] ++ w ++ [63, 61]
def qF (n : Nat) : List UInt8 := qR (Lib.encodeRune (n : Int))
def wordsL (l : List UInt8) : List (List UInt8) := pack [] ((runes l).map qF)
def joinW : List (List UInt8) → List UInt8
  | [] => []
  | [w] => wrapW w
  | w :: v :: r => wrapW w ++ 32 :: joinW (v :: r)
def encW (l : List UInt8) : List UInt8 := if plainS l = true then l else joinW (wordsL l)

theorem qR_append : ∀ a b : List UInt8, qR (a ++ b) = qR a ++ qR b
  | [], _ => rfl
  | c :: a, b => by
    have e : ∀ x, qR (c :: x) = qc c ++ qR x := fun _ => rfl
    rw [List.cons_append, e, e, qR_append a b, List.append_assoc]
theorem encs_append (a b : List Nat) : encs (a ++ b) = encs a ++ encs b := by unfold encs; rw [List.flatMap_append]
theorem encs_one (n : Nat) : encs [n] = Lib.encodeRune (n : Int) := by unfold encs; rw [List.flatMap_singleton]
theorem repair_of {ns : List Nat} (h : ∀ n ∈ ns, Sca n) : repairL (encs ns) = encs ns := by
  rw [repair_encs _ _ (Nat.le_refl _), runes_encs ns h]
theorem repair_eq (l : List UInt8) : repairL l = encs (runes l) := repair_encs _ l (Nat.le_refl _)
theorem runes_sca (l : List UInt8) : ∀ n ∈ runes l, Sca n := runes_Sca _ l (Nat.le_refl _)
def gW (g : List Nat) : List UInt8 := qR (encs g)
theorem pack_good : ∀ (ns ms : List Nat), ∃ gs : List (List Nat), pack (gW ms) (ns.map qF) = gs.map gW ∧ gs.flatten = ms ++ ns ∧ gs ≠ []
  | [], ms => ⟨[ms], rfl, by simp, by simp⟩
  | n :: ns, ms => by
    rw [List.map_cons]
    unfold pack
    split
    · obtain ⟨gs, h1, h2, h3⟩ := pack_good ns [n]
      have e : gW [n] = qF n := by unfold gW qF; rw [encs_one]
      rw [e] at h1
      exact ⟨ms :: gs, by rw [h1]; rfl, by rw [List.flatten_cons, h2]; rfl, by simp⟩
    · obtain ⟨gs, h1, h2, h3⟩ := pack_good ns (ms ++ [n])
      have e : gW (ms ++ [n]) = gW ms ++ qF n := by unfold gW qF; rw [encs_append, qR_append, encs_one]
      rw [e] at h1
      exact ⟨gs, h1, by rw [h2]; simp, h3⟩
theorem words_good (l : List UInt8) : ∃ gs : List (List Nat), wordsL l = gs.map gW ∧ gs.flatten = runes l ∧ gs ≠ [] := by
  obtain ⟨gs, h1, h2, h3⟩ := pack_good (runes l) []
  exact ⟨gs, h1, by rw [h2]; rfl, h3⟩
theorem qF_len (n : Nat) : (qF n).length ≤ 12 := by
  have := qR_length (Lib.encodeRune (n : Int))
  have := (enc_len n).2
  unfold qF; omega
theorem pack_len : ∀ (qs : List (List UInt8)) (o : List UInt8), o.length ≤ 63 → (∀ q ∈ qs, q.length ≤ 12) → ∀ w ∈ pack o qs, w.length ≤ 63
  | [], o, ho, _, w, hw => by unfold pack at hw; rw [List.mem_singleton] at hw; rw [hw]; exact ho
  | q :: r, o, ho, hq, w, hw => by
    unfold pack at hw
    split at hw
    · rcases List.mem_cons.1 hw with rfl | hw
      · exact ho
      · exact pack_len r q (by have := hq q (by simp); omega) (fun x hx => hq x (by simp [hx])) w hw
    · exact pack_len r (o ++ q) (by rw [List.length_append]; omega) (fun x hx => hq x (by simp [hx])) w hw
theorem words_len (l : List UInt8) : ∀ w ∈ wordsL l, w.length ≤ 63 := pack_len _ [] (by simp) (fun q hq => by
  rw [List.mem_map] at hq
  obtain ⟨n, -, rfl⟩ := hq
  exact qF_len n)
theorem qc_tx : ∀ n : Nat, n < 256 → ∀ d ∈ qc (UInt8.ofNat n), txC d = true := by decide +kernel
theorem qR_tx : ∀ l : List UInt8, ∀ d ∈ qR l, txC d = true
  | [], d, h => by cases h
  | c :: r, d, h => by
    unfold qR at h
    rw [List.mem_append] at h
    rcases h with h | h
    · have := qc_tx c.toNat c.toNat_lt
      rw [UInt8.ofNat_toNat] at this
      exact this d h
    · exact qR_tx r d h
theorem gW_word (g : List Nat) (z : List UInt8) : Word (wrapW (gW g) ++ z) utfN 81 (gW g) z :=
  ⟨by unfold wrapW utfN; simp, by decide, by decide, by decide, qR_tx _⟩
theorem kind_utf : kindL utfN = 2 := by decide
theorem gW_front (g : List Nat) (hg : ∀ n ∈ g, Sca n) (z : List UInt8) : frontT (wrapW (gW g) ++ z) = (encs g, 12 + (gW g).length) := by
  rw [frontT_some (word_front (gW_word g z))]
  have e : decCS utfN (readL 81 (gW g)) = encs g := by
    unfold decCS decK readL
    rw [kind_utf, if_neg (by decide), if_pos rfl, if_neg (by decide)]
    unfold gW
    rw [unQ_q, repair_of hg]
  rw [e]
  rfl
theorem wrapW_length (w : List UInt8) : (wrapW w).length = 12 + w.length := by unfold wrapW; simp; omega
theorem raw_word (g : List Nat) (hg : ∀ n ∈ g, Sca n) (z : List UInt8) : rawL (wrapW (gW g) ++ z) = encs g ++ rawL (skipG z) := by
  rw [raw_cons (by unfold wrapW; simp)]
  unfold stepD
  rw [gW_front g hg z, if_neg (by simp only; omega)]
  simp only
  rw [← wrapW_length, List.drop_left]
theorem joinW_head (w : List UInt8) (r : List (List UInt8)) (z : List UInt8) : ∃ z', joinW (w :: r) ++ z = wrapW w ++ z' := by
  cases r with
  | nil => exact ⟨z, rfl⟩
  | cons v r =>
    have e : joinW (w :: v :: r) = wrapW w ++ 32 :: joinW (v :: r) := rfl
    exact ⟨32 :: joinW (v :: r) ++ z, by rw [e]; simp⟩
theorem skipG_word {G : List UInt8} (hG : ∀ c ∈ G, Su.blk c = true) (g : List Nat) (hg : ∀ n ∈ g, Sca n) (r : List (List UInt8)) (z : List UInt8) : skipG (G ++ (joinW (gW g :: r) ++ z)) = joinW (gW g :: r) ++ z := by
  obtain ⟨z', hz⟩ := joinW_head (gW g) r z
  have e : (G ++ (joinW (gW g :: r) ++ z)).dropWhile Su.blk = joinW (gW g :: r) ++ z := by
    rw [hz]
    induction G with
    | nil =>
      rw [List.nil_append]
      unfold wrapW
      rw [List.append_assoc, List.append_assoc, List.cons_append, List.dropWhile_cons_of_neg (by decide)]
    | cons c G ih =>
      rw [List.cons_append, List.dropWhile_cons_of_pos (hG c (by simp))]
      exact ih (fun d hd => hG d (by simp [hd]))
  unfold skipG
  rw [e, hz, gW_front g hg z', if_pos (by simp only; omega)]
theorem raw_words : ∀ (gs : List (List Nat)) (z : List UInt8), gs ≠ [] → (∀ n ∈ gs.flatten, Sca n) → rawL (joinW (gs.map gW) ++ z) = encs gs.flatten ++ rawL (skipG z)
  | [], _, h, _ => absurd rfl h
  | [g], z, _, hs => by
    have e : joinW (([g] : List (List Nat)).map gW) = wrapW (gW g) := rfl
    rw [e, raw_word g (fun n hn => hs n (by simpa using hn))]
    simp
  | g :: h :: r, z, _, hs => by
    have hg : ∀ n ∈ g, Sca n := fun n hn => hs n (by simp [hn])
    have hh : ∀ n ∈ h, Sca n := fun n hn => hs n (by simp [hn])
    have hr : ∀ n ∈ (h :: r).flatten, Sca n := fun n hn => hs n (by rw [List.flatten_cons, List.mem_append]; exact .inr hn)
    have e : joinW ((g :: h :: r).map gW) ++ z = wrapW (gW g) ++ ([32] ++ (joinW (gW h :: r.map gW) ++ z)) := by
      simp [joinW]
    rw [e, raw_word g hg, skipG_word (by decide) h hh, List.flatten_cons, encs_append, List.append_assoc]
    have := raw_words (h :: r) z (by simp) hr
    rw [List.map_cons] at this
    rw [this]
theorem skipG_nil : skipG [] = [] := by decide
theorem raw_enc {s : List UInt8} (h : plainS s ≠ true) (z : List UInt8) : rawL (encW s ++ z) = repairL s ++ rawL (skipG z) := by
  obtain ⟨gs, h1, h2, h3⟩ := words_good s
  unfold encW
  rw [if_neg h, h1, raw_words gs z h3 (by rw [h2]; exact runes_sca s), h2, ← repair_eq]
theorem dec_enc (s : List UInt8) : decW (encW s) = repairL s := by
  unfold decW
  by_cases h : plainS s = true
  · have h1 := h
    unfold plainS at h1
    rw [Bool.and_eq_true] at h1
    unfold encW
    rw [if_pos h, raw_noEq s h1.1]
  · have := raw_enc h []
    rw [List.append_nil, skipG_nil, raw_nil, List.append_nil] at this
    rw [this, repair_repair]
/-! the bytes of an encoded text -/
theorem txC_ok : ∀ n : Nat, n < 256 → txC (UInt8.ofNat n) = true → okB (UInt8.ofNat n) = true ∧ UInt8.ofNat n ≠ 32 := by decide +kernel
theorem tx_ok {c : UInt8} (h : txC c = true) : okB c = true ∧ c ≠ 32 := by
  have := txC_ok c.toNat c.toNat_lt
  rw [UInt8.ofNat_toNat] at this
  exact this h
theorem wrap_tx {w : List UInt8} (h : ∀ d ∈ w, txC d = true) : ∀ c ∈ wrapW w, okB c = true ∧ c ≠ 32 := by
  intro c hc
  unfold wrapW at hc
  rw [List.mem_append, List.mem_append] at hc
  rcases hc with (hc | hc) | hc
  · revert c; decide
  · exact tx_ok (h c hc)
  · revert c; decide
theorem words_tx (s : List UInt8) : ∀ w ∈ wordsL s, ∀ d ∈ w, txC d = true := by
  intro w hw
  obtain ⟨gs, h1, -, -⟩ := words_good s
  rw [h1, List.mem_map] at hw
  obtain ⟨g, -, rfl⟩ := hw
  exact qR_tx _
theorem joinW_ok : ∀ ws : List (List UInt8), (∀ w ∈ ws, ∀ d ∈ w, txC d = true) → ∀ c ∈ joinW ws, okB c = true
  | [], _, c, hc => by cases hc
  | [w], h, c, hc => (wrap_tx (h w (by simp)) c hc).1
  | w :: v :: r, h, c, hc => by
    unfold joinW at hc
    rw [List.mem_append] at hc
    rcases hc with hc | hc
    · exact (wrap_tx (h w (by simp)) c hc).1
    · rcases List.mem_cons.1 hc with rfl | hc
      · decide
      · exact joinW_ok (v :: r) (fun x hx => h x (by simp [hx])) c hc
theorem enc_ok (s : List UInt8) : ∀ c ∈ encW s, okB c = true := by
  unfold encW
  split
  · rename_i h
    unfold plainS at h
    rw [Bool.and_eq_true, List.all_eq_true] at h
    exact h.2
  · exact joinW_ok _ (words_tx s)
/-- no row of bytes without a blank is longer than 75 -/
def runs : Nat → List UInt8 → Bool
  | _, [] => true
  | n, c :: r => if c = 32 then runs 0 r else decide (n + 1 ≤ 75) && runs (n + 1) r
theorem runs_row : ∀ (a b : List UInt8) (n : Nat), (∀ c ∈ a, c ≠ 32) → n + a.length ≤ 75 → runs n (a ++ b) = runs (n + a.length) b
  | [], b, n, _, _ => by simp
  | c :: a, b, n, h, hn => by
    rw [List.length_cons] at hn
    have e : ∀ (n : Nat) (x : List UInt8), runs n (c :: x) = if c = 32 then runs 0 x else decide (n + 1 ≤ 75) && runs (n + 1) x := fun _ _ => rfl
    rw [List.cons_append, e, if_neg (h c (by simp)), decide_eq_true (by omega), Bool.true_and, runs_row a b (n + 1) (fun d hd => h d (by simp [hd])) (by omega), List.length_cons]
    rw [show n + 1 + a.length = n + (a.length + 1) by omega]
theorem runs_joinW : ∀ ws : List (List UInt8), (∀ w ∈ ws, ∀ d ∈ w, txC d = true) → (∀ w ∈ ws, w.length ≤ 63) → runs 0 (joinW ws) = true
  | [], _, _ => rfl
  | [w], h, hl => by
    have hw := hl w (by simp)
    have e := runs_row (wrapW w) [] 0 (fun c hc => (wrap_tx (h w (by simp)) c hc).2) (by rw [wrapW_length]; omega)
    rw [List.append_nil] at e
    unfold joinW
    rw [e]; rfl
  | w :: v :: r, h, hl => by
    have hw := hl w (by simp)
    unfold joinW
    rw [runs_row (wrapW w) _ 0 (fun c hc => (wrap_tx (h w (by simp)) c hc).2) (by rw [wrapW_length]; omega)]
    unfold runs
    rw [if_pos rfl]
    exact runs_joinW (v :: r) (fun x hx => h x (by simp [hx])) (fun x hx => hl x (by simp [hx]))
theorem runs_enc {s : List UInt8} (h : encW s ≠ s) : runs 0 (encW s) = true := by
  unfold encW at h ⊢
  split at h
  · exact absurd rfl h
  · rw [if_neg (by assumption)]
    exact runs_joinW _ (words_tx s) (words_len s)
/-! white space between words -/
theorem encs_asc : ∀ l : List UInt8, (∀ c ∈ l, c.toNat < 128) → encs (l.map UInt8.toNat) = l
  | [], _ => rfl
  | c :: r, h => by
    have hc := h c (by simp)
    have ih := encs_asc r (fun d hd => h d (by simp [hd]))
    rw [List.map_cons]
    unfold encs at *
    rw [List.flatMap_cons, ih, enc_one _ hc]
    simp
theorem blk_asc : ∀ n : Nat, n < 256 → Su.blk (UInt8.ofNat n) = true → (UInt8.ofNat n).toNat < 128 ∧ UInt8.ofNat n ≠ 61 := by decide +kernel
theorem blk_lo {c : UInt8} (h : Su.blk c = true) : c.toNat < 128 ∧ c ≠ 61 := by
  have := blk_asc c.toNat c.toNat_lt
  rw [UInt8.ofNat_toNat] at this
  exact this h
theorem raw_plain : ∀ (a z : List UInt8), (∀ c ∈ a, c ≠ 61) → rawL (a ++ z) = a ++ rawL z
  | [], _, _ => rfl
  | c :: a, z, h => by
    rw [List.cons_append, raw_byte (front_hd (h c (by simp))), raw_plain a z (fun d hd => h d (by simp [hd])), List.cons_append]
theorem plain_one (a b : List UInt8) : plainS (a ++ 1 :: b) ≠ true := by
  unfold plainS
  intro h
  rw [Bool.and_eq_true, List.all_eq_true] at h
  have := h.2 1 (by simp)
  cases this
theorem aside_two {a b G : List UInt8} (hG : ∀ c ∈ G, Su.blk c = true) (ha : plainS a ≠ true) (hb : plainS b ≠ true) : decW (encW a ++ (G ++ encW b)) = decW (encW a) ++ decW (encW b) := by
  obtain ⟨gs, h1, h2, h3⟩ := words_good b
  have eb : encW b = joinW (gs.map gW) := by unfold encW; rw [if_neg hb, h1]
  have hs : skipG (G ++ encW b) = encW b := by
    rw [eb]
    cases gs with
    | nil => exact absurd rfl h3
    | cons g r =>
      have := skipG_word hG g (fun n hn => runes_sca b n (by rw [← h2]; simp [hn])) (r.map gW) []
      simpa using this
  have hr := raw_enc hb []
  rw [List.append_nil, skipG_nil, raw_nil, List.append_nil] at hr
  rw [dec_enc, dec_enc]
  unfold decW
  rw [raw_enc ha, hs, hr, repair_eq a, repair_eq b, ← encs_append, repair_of]
  intro n hn
  rw [List.mem_append] at hn
  rcases hn with hn | hn
  · exact runes_sca a n hn
  · exact runes_sca b n hn
theorem dw_blk (c : UInt8) (r : List UInt8) (hc : Su.blk c = false) : ∀ G : List UInt8, (∀ c ∈ G, Su.blk c = true) → (G ++ c :: r).dropWhile Su.blk = c :: r
  | [], _ => by rw [List.nil_append, List.dropWhile_cons_of_neg (by simp [hc])]
  | d :: G, h => by rw [List.cons_append, List.dropWhile_cons_of_pos (h d (by simp)), dw_blk c r hc G (fun e he => h e (by simp [he]))]
theorem aside_x {a b G : List UInt8} (hG : ∀ c ∈ G, Su.blk c = true) (ha : plainS a ≠ true) (hb : plainS b ≠ true) : decW (encW a ++ (G ++ 120 :: (G ++ encW b))) = decW (encW a) ++ (G ++ 120 :: (G ++ decW (encW b))) := by
  have hs : skipG (G ++ 120 :: (G ++ encW b)) = G ++ 120 :: (G ++ encW b) := by
    unfold skipG
    rw [dw_blk 120 _ (by decide) G hG, frontT_none (front_hd (by decide)), if_neg (by decide)]
  have hr := raw_enc hb []
  rw [List.append_nil, skipG_nil, raw_nil, List.append_nil] at hr
  have hG1 : ∀ c ∈ G, c ≠ 61 := fun c hc => (blk_lo (hG c hc)).2
  rw [dec_enc, dec_enc]
  unfold decW
  rw [raw_enc ha, hs, raw_plain G _ hG1, raw_byte (front_hd (by decide)), raw_plain G _ hG1, hr, repair_eq a, repair_eq b]
  have eG := encs_asc G fun c hc => (blk_lo (hG c hc)).1
  have e : encs (runes a) ++ (G ++ 120 :: (G ++ encs (runes b))) = encs (runes a ++ (G.map UInt8.toNat ++ 120 :: (G.map UInt8.toNat ++ runes b))) := by
    have e2 : ∀ l : List Nat, encs (120 :: l) = 120 :: encs l := fun l => rfl
    rw [encs_append, encs_append, e2, encs_append, eG]
  rw [e, repair_of]
  intro n hn
  have hm : ∀ n ∈ G.map UInt8.toNat, Sca n := by
    intro n hn
    rw [List.mem_map] at hn
    obtain ⟨c, hc, rfl⟩ := hn
    have := (blk_lo (hG c hc)).1
    unfold Sca; omega
  simp only [List.mem_append, List.mem_cons] at hn
  rcases hn with hn | hn | hn | hn | hn
  · exact runes_sca a n hn
  · exact hm n hn
  · subst hn; unfold Sca; omega
  · exact hm n hn
  · exact runes_sca b n hn
/-! a zero byte apart -/
theorem dec_apart (a b : List UInt8) : decW (a ++ 0 :: b) = decW a ++ 0 :: decW b := by
  unfold decW
  rw [raw_sep _ a b 0 (Nat.le_refl _) (by decide) (by decide), Su.repair_app _ (Su.asc_cons (by decide)), Su.repair_asc (by decide)]
theorem dec_noEq {a : List UInt8} (h : noEq a = true) : decW a = repairL a := by unfold decW; rw [raw_noEq a h]
end Wd
