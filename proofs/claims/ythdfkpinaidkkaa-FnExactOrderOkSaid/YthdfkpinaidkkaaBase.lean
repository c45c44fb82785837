/- The program's types, as the laws of XMem ask for them. -/
import Derived.Test.YthdfkpinaidkkaaProg
import Derived.Test.YthdfkpinaidkkaaMem
namespace Go.Proofs.Ythdfkpinaidkkaa
open Go.RowKit
theorem tI64 : SliceT Try.prog 42 2 (.int .i64 0) := ⟨Try.underlying42, 8, by decide, by kernel_rfl, rfl⟩
theorem tRows : SliceT Try.prog 22 42 (.slice none 0 0) := ⟨Try.underlying22, 24, by decide, by kernel_rfl, rfl⟩
end Go.Proofs.Ythdfkpinaidkkaa
