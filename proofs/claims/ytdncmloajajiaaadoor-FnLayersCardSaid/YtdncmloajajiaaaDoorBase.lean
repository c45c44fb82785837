/- The program's types, as the laws of XMem ask for them. -/
import Derived.Test.YtdncmloajajiaaaDoorProg
import Derived.Test.YtdncmloajajiaaaDoorMem
namespace Go.Proofs.YtdncmloajajiaaaDoor
open Go.RowKit
theorem tI64 : SliceT Tryd.prog 33 2 (.int .i64 0) := ⟨Tryd.underlying33, 8, by decide, by kernel_rfl, rfl⟩
theorem tRows : SliceT Tryd.prog 27 33 (.slice none 0 0) := ⟨Tryd.underlying27, 24, by decide, by kernel_rfl, rfl⟩
end Go.Proofs.YtdncmloajajiaaaDoor
