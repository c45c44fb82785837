/- CodeOf: the program's. -/
import Derived.Test.YtalfbldkdlanoaaDoorCode
namespace Go.Proofs.YtalfbldkdlanoaaDoor
open Go.RowKit
/-- A set as a value. -/
def netF (l : List Int) : Value := .int .u32 (maskL l : Nat)
theorem row_mask_lt {g : List (List Int)} (h : GOk g) (v : Nat) (hv : v < g.length) : maskL (row g (v : Int)) < 2 ^ 16 :=
  maskL_lt _ 16 fun x hx => by
    have := gok_range h (u := (v : Int)) (by omega) (by omega) hx
    have := h.le
    omega
theorem row_mask_bit {g : List (List Int)} (h : GOk g) (v u : Nat) (hv : v < g.length) : (maskL (row g (v : Int))).testBit u = decide ((u : Int) ∈ row g (v : Int)) :=
  testBit_maskL _ _ fun x hx => (gok_range h (u := (v : Int)) (by omega) (by omega) hx).1
end Go.Proofs.YtalfbldkdlanoaaDoor
