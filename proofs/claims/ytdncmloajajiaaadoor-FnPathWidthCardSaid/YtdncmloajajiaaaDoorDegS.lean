/- DegeneracyOf: the reference's. -/
import Derived.Test.YtdncmloajajiaaaDoorLeft
import Derived.Test.YtdncmloajajiaaaDoorElimM
import Derived.Test.YtdncmloajajiaaaDoorBag
import Derived.Test.YtdncmloajajiaaaDoorClique
import Derived.Deep.RegionWith
import Derived.Deep.RegionHeld3
namespace Go.Proofs.YtdncmloajajiaaaDoor
open Go.RowKit
def optI : Option Nat → Int
  | none => -1
  | some b => b
theorem leftL_dg {g : List (List Int)} (hg : GOk g) {v : Nat} (hv : v < g.length) (S : Nat) : (leftL (row g v) S).length = dgA (g.map maskL) S v := by
  unfold dgA
  have h := hg.inc v hv
  have := hg.le
  rw [← leftL_pc h (by omega) S, List.getD_eq_getElem?_getD, List.getElem?_map, List.getElem?_eq_getElem hv, row_nat _ _ hv]
  rfl
end Go.Proofs.YtdncmloajajiaaaDoor
