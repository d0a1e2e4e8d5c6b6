/- Walks of the reference pouchref04: sign, laid. -/
import Derived.Test.YtafmldooephmaaaDoorCha2
import Derived.Test.YtafmldooephmaaaDoorFoldP2
import Derived.Test.YtafmldooephmaaaDoorSubP2
import Derived.Test.YtafmldooephmaaaDoorBldR
namespace Go.Proofs.YtafmldooephmaaaDoor
open Go.RowKit Pk U8 Su Fo

theorem bsl04 : ByteSl Tryd.prog 29 5 where
  ht := Tryd.underlying29
  he := Tryd.underlying5
  hi := info_parts (show (Tryd.prog.info? 5).map (fun i => (i.zero, i.size, i.bytes)) = some (some (.int .u8 0), 1, 1) by kernel_rfl)
theorem sign_case (n : Int) : n < 0 ∨ (0 ≤ n ∧ n < 55296) ∨ (55296 ≤ n ∧ n ≤ 57343) ∨ (57343 < n ∧ n ≤ 1114111) ∨ 1114111 < n := by omega
def signI (n : Int) : Bool := decide (0 ≤ n ∧ n ≤ 1114111 ∧ (n < 55296 ∨ 57343 < n))
set_option maxHeartbeats 1000000 in
theorem sign_any (n : Int) (w : World) : Calls Tryd.prog 55 #[.int .i64 n] w fun e w' => e = .returned (.bool (signI n)) ∧ w = w' := by
  rcases sign_case n with h | ⟨h, h'⟩ | ⟨h, h'⟩ | ⟨h, h'⟩ | h
  · have e : signI n = false := decide_eq_false (by omega)
    rw [e]
    clear e
    go_enter Tryd.func55, Tryd.ntmps55
    go_wp2
    go_ret
    exact ⟨rfl, rfl⟩
  · have e : signI n = true := decide_eq_true (by omega)
    have h2 : n ≤ 1114111 := by omega
    rw [e]
    clear e
    go_enter Tryd.func55, Tryd.ntmps55
    go_wp2
    go_ret
    exact ⟨rfl, rfl⟩
  · have e : signI n = false := decide_eq_false (by omega)
    have h1 : 0 ≤ n := by omega
    have h2 : n ≤ 1114111 := by omega
    have h3 : ¬ n < 55296 := by omega
    have h4 : ¬ 57343 < n := by omega
    rw [e]
    clear e
    go_enter Tryd.func55, Tryd.ntmps55
    go_wp2
    go_ret
    exact ⟨rfl, rfl⟩
  · have e : signI n = true := decide_eq_true (by omega)
    have h1 : 0 ≤ n := by omega
    have h3 : ¬ n < 55296 := by omega
    rw [e]
    clear e
    go_enter Tryd.func55, Tryd.ntmps55
    go_wp2
    go_ret
    exact ⟨rfl, rfl⟩
  · have e : signI n = false := decide_eq_false (by omega)
    have h1 : 0 ≤ n := by omega
    have h2 : ¬ n ≤ 1114111 := by omega
    rw [e]
    clear e
    go_enter Tryd.func55, Tryd.ntmps55
    go_wp2
    go_ret
    exact ⟨rfl, rfl⟩

def Laid (n : Nat) (w : World) (e : Ending) (w' : World) : Prop := e = .returned (.slice (some ⟨w.heap.size, 0, none⟩) (Lib.encodeRune (n : Int)).length (Lib.encodeRune (n : Int)).length) ∧ w' = w.alloc (.cells (Lib.byteCells (Lib.encodeRune (n : Int))).toArray 5)
theorem cell_of (a : Int) (k : Nat) (h : a = k) (hk : k < 256) : Value.int .u8 a = .int .u8 (UInt8.ofNat k).toNat := by
  subst h; simp; omega
theorem lit1 {a : Int} {k : Nat} (h : a = k) (hk : k < 256) : #[Value.int .u8 a] = (Lib.byteCells [UInt8.ofNat k]).toArray := by
  rw [cell_of a k h hk]; rfl
theorem lit2 {a b : Int} {k l : Nat} (h : a = k) (hk : k < 256) (h' : b = l) (hl : l < 256) : #[Value.int .u8 a, .int .u8 b] = (Lib.byteCells [UInt8.ofNat k, UInt8.ofNat l]).toArray := by
  rw [cell_of a k h hk, cell_of b l h' hl]; rfl
theorem lit3 {a b c : Int} {k l m : Nat} (h : a = k) (hk : k < 256) (h' : b = l) (hl : l < 256) (h'' : c = m) (hm : m < 256) : #[Value.int .u8 a, .int .u8 b, .int .u8 c] = (Lib.byteCells [UInt8.ofNat k, UInt8.ofNat l, UInt8.ofNat m]).toArray := by
  rw [cell_of a k h hk, cell_of b l h' hl, cell_of c m h'' hm]; rfl
theorem lit4 {a b c d : Int} {k l m n : Nat} (h : a = k) (hk : k < 256) (h' : b = l) (hl : l < 256) (h'' : c = m) (hm : m < 256) (h3 : d = n) (hn : n < 256) : #[Value.int .u8 a, .int .u8 b, .int .u8 c, .int .u8 d] = (Lib.byteCells [UInt8.ofNat k, UInt8.ofNat l, UInt8.ofNat m, UInt8.ofNat n]).toArray := by
  rw [cell_of a k h hk, cell_of b l h' hl, cell_of c m h'' hm, cell_of d n h3 hn]; rfl
set_option maxHeartbeats 1000000 in
theorem laid_1 (n : Nat) (w : World) (_hs : Sca n) (h1 : n < 128) : Calls Tryd.prog 46 #[.int .i64 n] w (Laid n w) := by
  have e := enc_one n h1
  have hs := h1
  have E := Lib.hid e
  have g1 : (n : Int) < 128 := by omega
  have w1 : IntKind.u8.wrap (n : Int) = n := w8 (by omega) (by omega)
  clear e hs
  go_enter Tryd.func46, Tryd.ntmps46
  go_wp2
  go_ret
  unfold Laid
  rw [E.out]
  exact ⟨rfl, congrArg (fun c => w.alloc (.cells c 5)) (lit1 (by omega) (by omega))⟩
set_option maxHeartbeats 1000000 in
theorem laid_2 (n : Nat) (w : World) (hs : Sca n) (h1 : ¬ n < 128) (h2 : n < 2048) : Calls Tryd.prog 46 #[.int .i64 n] w (Laid n w) := by
  have e := enc_two n (by omega) h2
  have E := Lib.hid e
  have g1 : ¬ (n : Int) < 128 := by omega
  have g2 : (n : Int) < 2048 := by omega
  have q64 : IntKind.i64.wrap ((n : Int).tdiv 64) = (n : Int) / 64 := w64d (n := 64) (by omega) (by omega) (by omega)
  have a64 : IntKind.i64.wrap (192 + ((n : Int) / 64)) = 192 + ((n : Int) / 64) := w64 rfl (by omega) (by omega)
  have b64 : IntKind.u8.wrap (192 + ((n : Int) / 64)) = 192 + ((n : Int) / 64) := w8 (by omega) (by omega)
  have m1 : (n : Int).tmod 64 = (n : Int) % 64 := tmod_nn (by omega)
  have a1 : IntKind.i64.wrap (128 + ((n : Int) % 64)) = 128 + ((n : Int) % 64) := w64 rfl (by omega) (by omega)
  have b1 : IntKind.u8.wrap (128 + ((n : Int) % 64)) = 128 + ((n : Int) % 64) := w8 (by omega) (by omega)
  clear e hs
  go_enter Tryd.func46, Tryd.ntmps46
  go_wp2
  go_ret
  unfold Laid
  rw [E.out]
  exact ⟨rfl, congrArg (fun c => w.alloc (.cells c 5)) (lit2 (by omega) (by omega) (by omega) (by omega))⟩
set_option maxHeartbeats 1000000 in
theorem laid_3 (n : Nat) (w : World) (hs : Sca n) (h1 : ¬ n < 128) (h2 : ¬ n < 2048) (h3 : n < 65536) : Calls Tryd.prog 46 #[.int .i64 n] w (Laid n w) := by
  have e := enc_three n (by unfold Sca at hs; omega)
  have E := Lib.hid e
  have g1 : ¬ (n : Int) < 128 := by omega
  have g2 : ¬ (n : Int) < 2048 := by omega
  have g3 : (n : Int) < 65536 := by omega
  have q4096 : IntKind.i64.wrap ((n : Int).tdiv 4096) = (n : Int) / 4096 := w64d (n := 4096) (by omega) (by omega) (by omega)
  have a4096 : IntKind.i64.wrap (224 + ((n : Int) / 4096)) = 224 + ((n : Int) / 4096) := w64 rfl (by omega) (by omega)
  have b4096 : IntKind.u8.wrap (224 + ((n : Int) / 4096)) = 224 + ((n : Int) / 4096) := w8 (by omega) (by omega)
  have q64 : IntKind.i64.wrap ((n : Int).tdiv 64) = (n : Int) / 64 := w64d (n := 64) (by omega) (by omega) (by omega)
  have m64 : ((n : Int) / 64).tmod 64 = ((n : Int) / 64) % 64 := tmod_nn (by omega)
  have a64 : IntKind.i64.wrap (128 + (((n : Int) / 64) % 64)) = 128 + (((n : Int) / 64) % 64) := w64 rfl (by omega) (by omega)
  have b64 : IntKind.u8.wrap (128 + (((n : Int) / 64) % 64)) = 128 + (((n : Int) / 64) % 64) := w8 (by omega) (by omega)
  have m1 : (n : Int).tmod 64 = (n : Int) % 64 := tmod_nn (by omega)
  have a1 : IntKind.i64.wrap (128 + ((n : Int) % 64)) = 128 + ((n : Int) % 64) := w64 rfl (by omega) (by omega)
  have b1 : IntKind.u8.wrap (128 + ((n : Int) % 64)) = 128 + ((n : Int) % 64) := w8 (by omega) (by omega)
  clear e hs
  go_enter Tryd.func46, Tryd.ntmps46
  go_wp2
  go_ret
  unfold Laid
  rw [E.out]
  exact ⟨rfl, congrArg (fun c => w.alloc (.cells c 5)) (lit3 (by omega) (by omega) (by omega) (by omega) (by omega) (by omega))⟩
set_option maxHeartbeats 1000000 in
theorem laid_4 (n : Nat) (w : World) (hs : Sca n) (h1 : ¬ n < 128) (h2 : ¬ n < 2048) (h3 : ¬ n < 65536) : Calls Tryd.prog 46 #[.int .i64 n] w (Laid n w) := by
  have e := enc_four n (by omega) (by unfold Sca at hs; omega)
  have E := Lib.hid e
  have g0 : n ≤ 1114111 := by unfold Sca at hs; omega
  have g1 : ¬ (n : Int) < 128 := by omega
  have g2 : ¬ (n : Int) < 2048 := by omega
  have g3 : ¬ (n : Int) < 65536 := by omega
  have q262144 : IntKind.i64.wrap ((n : Int).tdiv 262144) = (n : Int) / 262144 := w64d (n := 262144) (by omega) (by omega) (by omega)
  have a262144 : IntKind.i64.wrap (240 + ((n : Int) / 262144)) = 240 + ((n : Int) / 262144) := w64 rfl (by omega) (by omega)
  have b262144 : IntKind.u8.wrap (240 + ((n : Int) / 262144)) = 240 + ((n : Int) / 262144) := w8 (by omega) (by omega)
  have q4096 : IntKind.i64.wrap ((n : Int).tdiv 4096) = (n : Int) / 4096 := w64d (n := 4096) (by omega) (by omega) (by omega)
  have m4096 : ((n : Int) / 4096).tmod 64 = ((n : Int) / 4096) % 64 := tmod_nn (by omega)
  have a4096 : IntKind.i64.wrap (128 + (((n : Int) / 4096) % 64)) = 128 + (((n : Int) / 4096) % 64) := w64 rfl (by omega) (by omega)
  have b4096 : IntKind.u8.wrap (128 + (((n : Int) / 4096) % 64)) = 128 + (((n : Int) / 4096) % 64) := w8 (by omega) (by omega)
  have q64 : IntKind.i64.wrap ((n : Int).tdiv 64) = (n : Int) / 64 := w64d (n := 64) (by omega) (by omega) (by omega)
  have m64 : ((n : Int) / 64).tmod 64 = ((n : Int) / 64) % 64 := tmod_nn (by omega)
  have a64 : IntKind.i64.wrap (128 + (((n : Int) / 64) % 64)) = 128 + (((n : Int) / 64) % 64) := w64 rfl (by omega) (by omega)
  have b64 : IntKind.u8.wrap (128 + (((n : Int) / 64) % 64)) = 128 + (((n : Int) / 64) % 64) := w8 (by omega) (by omega)
  have m1 : (n : Int).tmod 64 = (n : Int) % 64 := tmod_nn (by omega)
  have a1 : IntKind.i64.wrap (128 + ((n : Int) % 64)) = 128 + ((n : Int) % 64) := w64 rfl (by omega) (by omega)
  have b1 : IntKind.u8.wrap (128 + ((n : Int) % 64)) = 128 + ((n : Int) % 64) := w8 (by omega) (by omega)
  clear e hs
  go_enter Tryd.func46, Tryd.ntmps46
  go_wp2
  go_ret
  unfold Laid
  rw [E.out]
  exact ⟨rfl, congrArg (fun c => w.alloc (.cells c 5)) (lit4 (by omega) (by omega) (by omega) (by omega) (by omega) (by omega) (by omega) (by omega))⟩
theorem laid_any (n : Nat) (w : World) (hs : Sca n) : Calls Tryd.prog 46 #[.int .i64 n] w (Laid n w) := by
  by_cases h1 : n < 128
  · exact laid_1 n w hs h1
  · by_cases h2 : n < 2048
    · exact laid_2 n w hs h1 h2
    · by_cases h3 : n < 65536
      · exact laid_3 n w hs h1 h2 h3
      · exact laid_4 n w hs h1 h2 h3
end Go.Proofs.YtafmldooephmaaaDoor
