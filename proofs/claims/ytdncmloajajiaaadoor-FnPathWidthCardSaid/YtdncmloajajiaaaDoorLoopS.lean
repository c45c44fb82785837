/- LoopOk: the reference's. -/
import Derived.Test.YtdncmloajajiaaaDoorSetOk
import Derived.Test.YtdncmloajajiaaaDoorMask
import Derived.Test.YtdncmloajajiaaaDoorMem3
namespace Go.Proofs.YtdncmloajajiaaaDoor
open Go.RowKit

theorem l1Has_take (a : Option Addr) (zs : List Int) (c k : Nat) (x : Int) (w : World) (b : Bool) (hk : k ≤ zs.length) (hb : decide (x ∈ zs.take k) = b) (hr : Rd (Value.int .i64) w a zs) (hn : zs.length ≤ 16777216) :
    Calls Tryd.prog 70 #[.slice a k c, .int .i64 x] w fun e w' => e = .returned (.bool b) ∧ w = w' := by
  have h1 : (zs.take k).length = k := by simp; omega
  have := l1Has_b a (zs.take k) c x w b hb (hr.take k) (by omega)
  rwa [h1] at this
end Go.Proofs.YtdncmloajajiaaaDoor
