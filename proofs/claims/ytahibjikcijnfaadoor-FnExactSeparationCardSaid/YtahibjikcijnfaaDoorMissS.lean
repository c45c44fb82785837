/- How many pairs of a list are no neighbours: the reference's. -/
import Derived.Test.YtahibjikcijnfaaDoorMissM
import Derived.Test.YtahibjikcijnfaaDoorSetOk
import Derived.Test.YtahibjikcijnfaaDoorQuiet
namespace Go.Proofs.YtahibjikcijnfaaDoor
open Go.RowKit
theorem cntR_take_le (n : Nat) (P : Nat → Bool) : cntR n P ≤ n := cntR_le n P
end Go.Proofs.YtahibjikcijnfaaDoor
