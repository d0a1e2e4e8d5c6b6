/- Plain: strings gone through rune by rune. -/
import Derived.Test.YtafmldooephmaaaDoorUtf
namespace U8
open Go Go.RowKit Pk

/-- what g gives at each rune or invalid byte, one behind the other -/
def walkF {α : Type} (g : List UInt8 → List α) : Nat → List UInt8 → List α
  | 0, _ => []
  | f + 1, l => if l.isEmpty = true then [] else g l ++ walkF g f (l.drop (dec l).2)
def walk {α : Type} (g : List UInt8 → List α) (l : List UInt8) : List α := walkF g l.length l
theorem walkF_more {α : Type} (g : List UInt8 → List α) : ∀ (f : Nat) (l : List UInt8), l.length ≤ f → walkF g f l = walk g l := by
  intro f
  induction f using Nat.strongRecOn with
  | _ f ih =>
    intro l hl
    cases l with
    | nil => cases f <;> rfl
    | cons a r =>
      cases f with
      | zero => simp at hl
      | succ f =>
        have hw := dec_width (a :: r) (by simp)
        unfold walk
        rw [List.length_cons, walkF, walkF]
        rw [if_neg (by simp), if_neg (by simp)]
        congr 1
        have hd : ((a :: r).drop (dec (a :: r)).2).length ≤ r.length := by rw [List.length_drop, List.length_cons]; omega
        simp only [List.length_cons] at hl
        rw [ih f (by omega) _ (by omega)]
        by_cases he : r.length = f
        · rw [he, ih f (by omega) _ (by omega)]
        · rw [ih r.length (by omega) _ hd]
theorem walk_nil {α : Type} (g : List UInt8 → List α) : walk g [] = [] := rfl
theorem walk_cons {α : Type} (g : List UInt8 → List α) (l : List UInt8) (h : l ≠ []) : walk g l = g l ++ walk g (l.drop (dec l).2) := by
  cases l with
  | nil => exact absurd rfl h
  | cons a r =>
    have hw := dec_width (a :: r) (by simp)
    conv => lhs; unfold walk
    rw [List.length_cons, walkF, if_neg (by simp), walkF_more]
    rw [List.length_drop, List.length_cons]; omega
theorem walk_enc {α : Type} (g : List UInt8 → List α) (n : Nat) (h : Sca n) (x : List UInt8) : walk g (Lib.encodeRune (n : Int) ++ x) = g (Lib.encodeRune (n : Int) ++ x) ++ walk g x := by
  have hne : Lib.encodeRune (n : Int) ++ x ≠ [] := by
    intro e
    have := (enc_len n).1
    rw [List.append_eq_nil_iff] at e
    rw [e.1] at this; simp at this
  rw [walk_cons g _ hne, dec_enc n h]
  simp
theorem walk_length {α : Type} (g : List UInt8 → List α) (c : Nat) (hg : ∀ l, l ≠ [] → (g l).length ≤ c * (dec l).2) : ∀ (n : Nat) (l : List UInt8), l.length ≤ n → (walk g l).length ≤ c * l.length := by
  intro n
  induction n with
  | zero => intro l h; have : l = [] := List.eq_nil_of_length_eq_zero (by omega); subst this; simp [walk_nil]
  | succ n ih =>
    intro l h
    by_cases he : l = []
    · subst he; simp [walk_nil]
    · have hw := dec_width l he
      rw [walk_cons g l he, List.length_append]
      have h1 := hg l he
      have h2 := ih (l.drop (dec l).2) (by rw [List.length_drop]; omega)
      rw [List.length_drop, Nat.mul_sub] at h2
      have h3 : c * (dec l).2 ≤ c * l.length := Nat.mul_le_mul_left _ hw.2.2
      omega
/-! along a string -/
theorem tl_drop (s : ByteArray) (p k : Nat) : (tl s p).drop k = tl s (p + k) := by unfold tl; rw [List.drop_drop]
theorem tl_ne {s : ByteArray} {p : Nat} (h : p < s.size) : tl s p ≠ [] := by
  intro e
  have := tl_length s p
  rw [e] at this; simp at this; omega
theorem walk_step {α : Type} {g : List UInt8 → List α} {s : ByteArray} {p : Nat} {acc X : List α} (h : Hid (acc ++ walk g (tl s p) = X)) (hp : p < s.size) : Hid (acc ++ g (tl s p) ++ walk g (tl s (p + (dec (tl s p)).2)) = X) := by
  have e := h.out
  rw [walk_cons g _ (tl_ne hp), tl_drop] at e
  show _ = _
  rw [← e, List.append_assoc]
theorem walk_end {α : Type} {g : List UInt8 → List α} {s : ByteArray} {p : Nat} {acc X : List α} (h : Hid (acc ++ walk g (tl s p) = X)) (hp : ¬ p < s.size) : acc = X := by
  have e := h.out
  rw [tl_end s p (by omega), walk_nil] at e
  simpa using e
theorem width_le {s : ByteArray} {p : Nat} (hp : p < s.size) : 1 ≤ (dec (tl s p)).2 ∧ (dec (tl s p)).2 ≤ 4 ∧ p + (dec (tl s p)).2 ≤ s.size := by
  have := dec_width (tl s p) (tl_ne hp)
  rw [tl_length] at this
  omega
/-- the units, the runes, the repaired string -/
def units (l : List UInt8) : List (List UInt8) := walk (fun l => [l.take (dec l).2]) l
def runes (l : List UInt8) : List Nat := walk (fun l => [(dec l).1]) l
def encH (l : List UInt8) : List UInt8 := Lib.encodeRune ((dec l).1 : Int)
def repairL (l : List UInt8) : List UInt8 := walk encH l
theorem encH_len (l : List UInt8) (h : l ≠ []) : (encH l).length ≤ 3 * (dec l).2 := by
  unfold encH
  by_cases ho : Okay l
  · rw [(enc_dec l h ho).2, List.length_take]; omega
  · rw [dec_bad l ho]; decide
theorem repairL_length (l : List UInt8) : (repairL l).length ≤ 3 * l.length := walk_length encH 3 encH_len _ l (Nat.le_refl _)
theorem runes_length (l : List UInt8) : (runes l).length ≤ l.length := by
  have := walk_length (fun l => [(dec l).1]) 1 (fun l h => by have := dec_width l h; simp; omega) _ l (Nat.le_refl _)
  unfold runes; omega
theorem runes_Sca : ∀ (n : Nat) (l : List UInt8), l.length ≤ n → ∀ r ∈ runes l, Sca r := by
  intro n
  induction n with
  | zero => intro l h; have : l = [] := List.eq_nil_of_length_eq_zero (by omega); subst this; intro r hr; cases hr
  | succ n ih =>
    intro l h r hr
    by_cases he : l = []
    · subst he; cases hr
    · have hw := dec_width l he
      unfold runes at hr
      rw [walk_cons _ l he] at hr
      rcases List.mem_append.1 hr with hr | hr
      · rw [List.mem_singleton] at hr; subst hr; exact dec_rune l he
      · exact ih (l.drop (dec l).2) (by rw [List.length_drop]; omega) r hr
/-- code points encoded one behind the other -/
def encs (ns : List Nat) : List UInt8 := ns.flatMap fun (n : Nat) => Lib.encodeRune (n : Int)
theorem repair_encs : ∀ (n : Nat) (l : List UInt8), l.length ≤ n → repairL l = encs (runes l) := by
  intro n
  induction n with
  | zero => intro l h; have : l = [] := List.eq_nil_of_length_eq_zero (by omega); subst this; rfl
  | succ n ih =>
    intro l h
    by_cases he : l = []
    · subst he; rfl
    · have hw := dec_width l he
      have := ih (l.drop (dec l).2) (by rw [List.length_drop]; omega)
      unfold repairL runes at *
      rw [walk_cons _ l he, walk_cons _ l he, this]
      simp [encs, encH]
theorem walk_encs {α : Type} (g : List UInt8 → List α) (hg : ∀ n, Sca n → ∀ x, g (Lib.encodeRune (n : Int) ++ x) = g (Lib.encodeRune (n : Int))) : ∀ ns : List Nat, (∀ n ∈ ns, Sca n) → walk g (encs ns) = ns.flatMap fun (n : Nat) => g (Lib.encodeRune (n : Int))
  | [], _ => rfl
  | n :: ns, h => by
    have hn := h n (by simp)
    have e : encs (n :: ns) = Lib.encodeRune (n : Int) ++ encs ns := rfl
    rw [e, walk_enc g n hn, hg n hn, walk_encs g hg ns (fun m hm => h m (by simp [hm]))]
    rfl
theorem runes_encs (ns : List Nat) (h : ∀ n ∈ ns, Sca n) : runes (encs ns) = ns := by
  unfold runes
  rw [walk_encs _ (fun n hn x => by have h1 := dec_enc n hn x; have h2 := dec_enc n hn []; rw [List.append_nil] at h2; rw [h1, h2]) ns h]
  induction ns with
  | nil => rfl
  | cons n ns ih =>
    have h2 := dec_enc n (h n (by simp)) []
    rw [List.append_nil] at h2
    rw [List.flatMap_cons, ih (fun m hm => h m (by simp [hm])), h2]
    rfl
theorem runes_repair (l : List UInt8) : runes (repairL l) = runes l := by
  rw [repair_encs _ l (Nat.le_refl _), runes_encs _ (runes_Sca _ l (Nat.le_refl _))]
theorem repair_repair (l : List UInt8) : repairL (repairL l) = repairL l := by
  rw [repair_encs _ (repairL l) (Nat.le_refl _), runes_repair, ← repair_encs _ l (Nat.le_refl _)]
end U8
