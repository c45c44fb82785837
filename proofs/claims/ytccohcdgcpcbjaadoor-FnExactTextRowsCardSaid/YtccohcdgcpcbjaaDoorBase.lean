/- The program's types, as the laws of XMem ask for them. -/
import Derived.Test.YtccohcdgcpcbjaaDoorProg
import Derived.Test.YtccohcdgcpcbjaaDoorMem
namespace Go.Proofs.YtccohcdgcpcbjaaDoor
open Go.RowKit
theorem tI64 : SliceT Tryd.prog 30 2 (.int .i64 0) := ⟨Tryd.underlying30, 8, by decide, by kernel_rfl, rfl⟩
theorem tRows : SliceT Tryd.prog 22 30 (.slice none 0 0) := ⟨Tryd.underlying22, 24, by decide, by kernel_rfl, rfl⟩
end Go.Proofs.YtccohcdgcpcbjaaDoor
