/- The program's types, as the laws of XMem ask for them. -/
import Derived.Test.YthdfkpinaidkkaaDoorProg
import Derived.Test.YthdfkpinaidkkaaDoorMem
namespace Go.Proofs.YthdfkpinaidkkaaDoor
open Go.RowKit
theorem tI64 : SliceT Tryd.prog 24 2 (.int .i64 0) := ⟨Tryd.underlying24, 8, by decide, by kernel_rfl, rfl⟩
theorem tRows : SliceT Tryd.prog 33 24 (.slice none 0 0) := ⟨Tryd.underlying33, 24, by decide, by kernel_rfl, rfl⟩
end Go.Proofs.YthdfkpinaidkkaaDoor
