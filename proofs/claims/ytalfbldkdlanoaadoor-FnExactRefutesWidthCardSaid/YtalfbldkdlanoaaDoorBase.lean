/- The program's types, as the laws of XMem ask for them. -/
import Derived.Test.YtalfbldkdlanoaaDoorProg
import Derived.Test.YtalfbldkdlanoaaDoorMem
namespace Go.Proofs.YtalfbldkdlanoaaDoor
open Go.RowKit
theorem tI64 : SliceT Tryd.prog 26 2 (.int .i64 0) := ⟨Tryd.underlying26, 8, by decide, by kernel_rfl, rfl⟩
theorem tRows : SliceT Tryd.prog 22 26 (.slice none 0 0) := ⟨Tryd.underlying22, 24, by decide, by kernel_rfl, rfl⟩
end Go.Proofs.YtalfbldkdlanoaaDoor
