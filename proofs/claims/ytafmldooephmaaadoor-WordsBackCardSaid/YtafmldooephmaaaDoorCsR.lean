/- Walks: charset: readers, Decode. -/
import Derived.Test.YtafmldooephmaaaDoorCsE
namespace Go.Proofs.YtafmldooephmaaaDoor
open Go.RowKit Pk U8 Cs

def kUs : ByteArray := ⟨#[117, 115, 45, 97, 115, 99, 105, 105]⟩
def kAs : ByteArray := ⟨#[97, 115, 99, 105, 105]⟩
def kU8 : ByteArray := ⟨#[117, 116, 102, 45, 56]⟩
def kU : ByteArray := ⟨#[117, 116, 102, 56]⟩
def kIso : ByteArray := ⟨#[105, 115, 111, 45, 56, 56, 53, 57, 45, 49]⟩
def kL1 : ByteArray := ⟨#[108, 97, 116, 105, 110, 49]⟩
def kW : ByteArray := ⟨#[119, 105, 110, 100, 111, 119, 115, 45, 49, 50, 53, 50]⟩
def kCp : ByteArray := ⟨#[99, 112, 49, 50, 53, 50]⟩
def repV : Value := .func (.func 13) #[] #[]
def kvsR (b1 b2 b3 : Nat) : List (ByteArray × Value) := [(⟨#[117, 115, 45, 97, 115, 99, 105, 105]⟩, closV b1), (⟨#[97, 115, 99, 105, 105]⟩, closV b1), (⟨#[117, 116, 102, 45, 56]⟩, repV), (⟨#[117, 116, 102, 56]⟩, repV), (⟨#[105, 115, 111, 45, 56, 56, 53, 57, 45, 49]⟩, closV b2), (⟨#[108, 97, 116, 105, 110, 49]⟩, closV b2), (⟨#[119, 105, 110, 100, 111, 119, 115, 45, 49, 50, 53, 50]⟩, closV b3), (⟨#[99, 112, 49, 50, 53, 50]⟩, closV b3)]
theorem ba_beq (n k : List UInt8) : ((⟨n.toArray⟩ : ByteArray) == ⟨k.toArray⟩) = decide (n = k) := by
  show (n.toArray == k.toArray) = _
  by_cases h : n = k
  · subst h; simp
  · rw [decide_eq_false h]
    simp [h]
theorem get_kind (name : List UInt8) (b1 b2 b3 : Nat) : mapGet ⟨(name.map Su.lowc).toArray⟩ .nilFunc (kvsR b1 b2 b3) =
    if kindL name = 1 then closV b1 else if kindL name = 2 then repV else if kindL name = 3 then closV b2 else if kindL name = 4 then closV b3 else .nilFunc := by
  have e1 := ba_beq (name.map Su.lowc) usascii
  have e2 := ba_beq (name.map Su.lowc) ascii
  have e3 := ba_beq (name.map Su.lowc) utf_8
  have e4 := ba_beq (name.map Su.lowc) utf8
  have e5 := ba_beq (name.map Su.lowc) iso
  have e6 := ba_beq (name.map Su.lowc) latin1
  have e7 := ba_beq (name.map Su.lowc) win52
  have e8 := ba_beq (name.map Su.lowc) cp52
  unfold kindL kvsR
  simp only
  generalize name.map Su.lowc = n at *
  unfold usascii at e1; unfold ascii at e2; unfold utf_8 at e3; unfold utf8 at e4; unfold iso at e5; unfold latin1 at e6; unfold win52 at e7; unfold cp52 at e8
  simp only [mapGet, e1, e2, e3, e4, e5, e6, e7, e8, decide_eq_true_eq]
  unfold usascii ascii utf_8 utf8 iso latin1 win52 cp52
  by_cases h1 : n = [117, 115, 45, 97, 115, 99, 105, 105]
  · simp [h1]
  by_cases h2 : n = [97, 115, 99, 105, 105]
  · simp [h2]
  by_cases h3 : n = [117, 116, 102, 45, 56]
  · simp [h3]
  by_cases h4 : n = [117, 116, 102, 56]
  · simp [h4]
  by_cases h5 : n = [105, 115, 111, 45, 56, 56, 53, 57, 45, 49]
  · simp [h5]
  by_cases h6 : n = [108, 97, 116, 105, 110, 49]
  · simp [h6]
  by_cases h7 : n = [119, 105, 110, 100, 111, 119, 115, 45, 49, 50, 53, 50]
  · simp [h7]
  by_cases h8 : n = [99, 112, 49, 50, 53, 50]
  · simp [h8]
  simp [h1, h2, h3, h4, h5, h6, h7, h8]
/-- the decoders by name, made -/
structure RdIs (w w' : World) (r b1 b2 b3 : Nat) : Prop where
  map : mapIs w' r (kvsR b1 b2 b3)
  c1 : w'.cell? ⟨b1, 0, none⟩ = some (.func (.func 84) #[] #[])
  c2 : w'.cell? ⟨b2, 0, none⟩ = some (.func (.func 85) #[] #[])
  c3 : w'.cell? ⟨b3, 0, none⟩ = some (.func (.func 68) #[] #[])
  bel : Below w.heap.size w w'
theorem cell_grown {w w' : World} {r b : Nat} {v : Value} (h : w.cell? ⟨b, 0, none⟩ = some v) (hg : w.grownBy w' (some r)) (hr : b ≠ r) (hb : b < w.heap.size) : w'.cell? ⟨b, 0, none⟩ = some v := by
  unfold World.cell? at *
  have : w'.heap[b]? = w.heap[b]? := hg.block b hb (fun e => hr (by injection e))
  rw [this]; exact h
/-- the same while the map grows -/
structure RdP (w W : World) (r b1 b2 b3 : Nat) (kvs : List (ByteArray × Value)) : Prop where
  map : mapIs W r kvs
  c1 : W.cell? ⟨b1, 0, none⟩ = some (.func (.func 84) #[] #[])
  c2 : W.cell? ⟨b2, 0, none⟩ = some (.func (.func 85) #[] #[])
  c3 : W.cell? ⟨b3, 0, none⟩ = some (.func (.func 68) #[] #[])
  bel : Below w.heap.size w W
  n1 : b1 < r
  n2 : b2 < r
  n3 : b3 < r
  hr : w.heap.size ≤ r
theorem RdP.step {w W W' : World} {r b1 b2 b3 : Nat} {kvs kvs' : List (ByteArray × Value)} (h : RdP w W r b1 b2 b3 kvs) (hm : mapIs W' r kvs') (hg : W.grownBy W' (some r)) : RdP w W' r b1 b2 b3 kvs' := by
  have hl := mapIs_lt h.map
  have h1 := h.n1
  have h2 := h.n2
  have h3 := h.n3
  exact ⟨hm, cell_grown h.c1 hg (by omega) (by omega), cell_grown h.c2 hg (by omega) (by omega), cell_grown h.c3 hg (by omega) (by omega), Below_map h.bel h.hr hg h.bel.size, h.n1, h.n2, h.n3, h.hr⟩
theorem RdP.start {w w1 w2 w3 : World} (hc1 : w1.cell? ⟨w.heap.size, 0, none⟩ = some (.func (.func 84) #[] #[])) (hc2 : w2.cell? ⟨w1.heap.size, 0, none⟩ = some (.func (.func 85) #[] #[])) (hc3 : w3.cell? ⟨w2.heap.size, 0, none⟩ = some (.func (.func 68) #[] #[]))
    (hb1 : Below w.heap.size w w1) (hb2 : Below w1.heap.size w1 w2) (hb3 : Below w2.heap.size w2 w3) (z1 : w.heap.size < w1.heap.size) (z2 : w1.heap.size < w2.heap.size) (z3 : w2.heap.size < w3.heap.size) :
    RdP w (w3.alloc (.map #[] 0)) w3.heap.size w.heap.size w1.heap.size w2.heap.size [] := by
  have tb : Below w.heap.size w w3 := (hb1.trans (hb2.mono hb1.size)).trans (hb3.mono (by omega))
  have ha : Below w3.heap.size w3 (w3.alloc (.map #[] 0)) := (Below.refl _ _).alloc (Nat.le_refl _) _
  exact ⟨mapIs_new w3, cell_later ha (cell_later hb3 (cell_later hb2 hc1)), cell_later ha (cell_later hb3 hc2), cell_later ha hc3, tb.trans (ha.mono (by omega)), by omega, by omega, by omega, by omega⟩
def RdR (w : World) (e : Ending) (w' : World) : Prop := ∃ r b1 b2 b3, e = .returned (.map (some r)) ∧ RdIs w w' r b1 b2 b3
theorem RdP.fin {w W : World} {r b1 b2 b3 : Nat} (h : RdP w W r b1 b2 b3 (kvsR b1 b2 b3)) : RdR w (.returned (.map (some r))) W := ⟨r, b1, b2, b3, rfl, h.map, h.c1, h.c2, h.c3, h.bel⟩
set_option maxHeartbeats 2000000 in
set_option maxRecDepth 100000 in
theorem readers_any (w : World) : Calls Tryd.prog 65 #[] w (RdR w) := by
  have tb := Below.refl w.heap.size w
  have hmm := @run_makeMap Tryd.prog
  go_enter Tryd.func65, Tryd.ntmps65
  go_wp2_with (first
    | (go_at_call 67; (with_reducible refine (bytewise_any 84 _).mono ?_); rintro e w1 ⟨rfl, hc1, hb1, hz1⟩)
    | (go_at_call 67; (with_reducible refine (bytewise_any 85 _).mono ?_); rintro e w2 ⟨rfl, hc2, hb2, hz2⟩)
    | (go_at_call 67; (with_reducible refine (bytewise_any 68 _).mono ?_); rintro e w3 ⟨rfl, hc3, hb3, hz3⟩; have hp := RdP.start hc1 hc2 hc3 hb1 hb2 hb3 hz1 hz2 hz3)
    | (refine wpList_insert_map _ rfl (.tmp 7) _ _ _ rfl _ _ Tryd.underlying50 Tryd.underlying9 _ _ rfl hp.map _ rfl (by kernel_rfl) ?_; intro w4 hm4 hg4; have hp := hp.step hm4 hg4; clear hm4 hg4))
  go_ret
  exact hp.fin
end Go.Proofs.YtafmldooephmaaaDoor
