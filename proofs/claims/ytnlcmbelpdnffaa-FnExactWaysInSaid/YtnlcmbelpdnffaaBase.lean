/- The program's types, as the laws of XMem ask for them. -/
import Derived.Test.YtnlcmbelpdnffaaProg
import Derived.Test.YtnlcmbelpdnffaaMem
namespace Go.Proofs.Ytnlcmbelpdnffaa
open Go.RowKit
theorem tI64 : SliceT Try.prog 45 2 (.int .i64 0) := ⟨Try.underlying45, 8, by decide, by kernel_rfl, rfl⟩
theorem tRows : SliceT Try.prog 23 45 (.slice none 0 0) := ⟨Try.underlying23, 24, by decide, by kernel_rfl, rfl⟩
end Go.Proofs.Ytnlcmbelpdnffaa
