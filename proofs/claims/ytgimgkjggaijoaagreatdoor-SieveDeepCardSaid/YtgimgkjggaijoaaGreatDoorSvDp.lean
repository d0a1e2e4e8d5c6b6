/- Plain: scripts of nested blocks and tests. -/
import Derived.Test.YtgimgkjggaijoaaGreatDoorSvPl
import Derived.Test.YtgimgkjggaijoaaGreatDoorLxK
namespace Sv
open Go Lx C1

def repB : Nat → List UInt8 → List UInt8
  | 0, _ => []
  | n + 1, x => x ++ repB n x
def deepL (b t : Nat) : List UInt8 := repB b [97, 123] ++ [98] ++ repB t [32, 116] ++ [59] ++ repB b [125]
def deepOk (b t : Nat) : Bool :=
  match runF 400 (deepL b t) 0 with
  | some (ts, none) =>
    match parseR ((deepL b t).length : Nat) 400 (ts.map lexOf) with
    | some (.ok [c]) => decide (b + t ≤ 8) && rightC 0 c
    | some (.error e) => if 8 < b then decide (e = (10, 18)) else decide (8 < b + t) && decide (e = (10, 2 * (b : Int) + 1 + 2 * (8 - (b : Int)) + 1))
    | _ => false
  | _ => false
theorem deep_all : ∀ b < 31, ∀ t < 31, deepOk b t = true := by decide +kernel
end Sv
