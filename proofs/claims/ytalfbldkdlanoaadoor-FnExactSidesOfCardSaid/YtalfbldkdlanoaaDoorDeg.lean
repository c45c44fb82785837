/- DegeneracyOf: the program's. -/
import Derived.Test.YtalfbldkdlanoaaDoorDegM
import Derived.Test.YtalfbldkdlanoaaDoorMiss
import Derived.Test.YtalfbldkdlanoaaDoorClique
import Derived.Test.YtalfbldkdlanoaaDoorLeft
import Derived.Deep.RegionWith
namespace Go.Proofs.YtalfbldkdlanoaaDoor
open Go.RowKit
end Go.Proofs.YtalfbldkdlanoaaDoor
