/- How many pairs of a set are no neighbours: both. -/
import Derived.Test.YtggjmnihnjdoaaaDoorMissM
import Derived.Test.YtggjmnihnjdoaaaDoorTab
import Derived.Test.YtggjmnihnjdoaaaDoorCode2
namespace Go.Proofs.YtggjmnihnjdoaaaDoor
open Go.RowKit
/-- A set, as a value. -/
def maskF (m : Nat) : Value := .int .u32 (m : Nat)
theorem Rd.masks {w : World} {a : Option Addr} {g : List (List Int)} (h : Rd netF w a g) : Rd maskF w a (g.map maskL) := by
  intro i hi
  have hi' : i < g.length := by simpa using hi
  obtain ⟨b, o, h1, h2⟩ := h i hi'
  exact ⟨b, o, h1, by rw [h2, List.getElem_map]; rfl⟩
end Go.Proofs.YtggjmnihnjdoaaaDoor
