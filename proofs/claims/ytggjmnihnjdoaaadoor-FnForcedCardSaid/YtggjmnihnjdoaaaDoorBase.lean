/- The program's types, as the laws of XMem ask for them. -/
import Derived.Test.YtggjmnihnjdoaaaDoorProg
import Derived.Test.YtggjmnihnjdoaaaDoorMem
namespace Go.Proofs.YtggjmnihnjdoaaaDoor
open Go.RowKit
theorem tI64 : SliceT Tryd.prog 41 2 (.int .i64 0) := ⟨Tryd.underlying41, 8, by decide, by kernel_rfl, rfl⟩
theorem tRows : SliceT Tryd.prog 22 41 (.slice none 0 0) := ⟨Tryd.underlying22, 24, by decide, by kernel_rfl, rfl⟩
end Go.Proofs.YtggjmnihnjdoaaaDoor
