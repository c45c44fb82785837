/- The program's types, as the laws of XMem ask for them. -/
import Derived.Test.YtahibjikcijnfaaDoorProg
import Derived.Test.YtahibjikcijnfaaDoorMem
namespace Go.Proofs.YtahibjikcijnfaaDoor
open Go.RowKit
theorem tI64 : SliceT Tryd.prog 25 2 (.int .i64 0) := ⟨Tryd.underlying25, 8, by decide, by kernel_rfl, rfl⟩
theorem tRows : SliceT Tryd.prog 22 25 (.slice none 0 0) := ⟨Tryd.underlying22, 24, by decide, by kernel_rfl, rfl⟩
end Go.Proofs.YtahibjikcijnfaaDoor
