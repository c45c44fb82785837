/- The neighbours that are left: the reference's; small facts of both sides. -/
import Derived.Test.YtdncmloajajiaaaDoorGone
import Derived.Test.YtdncmloajajiaaaDoorEdges
import Derived.Test.YtdncmloajajiaaaDoorMem3
import Derived.Test.YtdncmloajajiaaaDoorSetOk
import Derived.Test.YtdncmloajajiaaaDoorDist
namespace Go.Proofs.YtdncmloajajiaaaDoor
open Go.RowKit
theorem ownB_rd {e : TypeId} {w : World} {B n c : Nat} {a : Option Addr} {zs : List Bool} (h : Own e w B (.slice a n c) (zs.map Value.bool)) : Rd Value.bool w a zs := by
  obtain ⟨a', c', h1, h2, _⟩ := h.rd
  obtain ⟨rfl, _, rfl⟩ := slice_inj h1
  exact h2
theorem memsN_get {S k : Nat} (hk : k < (mems S).length) : (mems S)[k] = (((memsN S)[k]'(by unfold mems at hk; simpa using hk) : Nat) : Int) := by simp [mems]
theorem mems_lenN (S : Nat) : (mems S).length = (memsN S).length := by simp [mems]
theorem one_p (v P : Nat) (w : World) (hv : v < 32) (hP : 2 ^ v = P) : Calls Tryd.prog 41 #[.int .i64 v] w fun e w' => e = .returned (.int .u32 (P : Int)) ∧ w = w' := by rw [← hP]; exact one_any v w hv
theorem all_p (a : Option Addr) (n c F : Nat) (w : World) (hn : n ≤ 16) (hF : 2 ^ n - 1 = F) : Calls Tryd.prog 48 #[.slice a n c] w fun e w' => e = .returned (.int .u32 (F : Int)) ∧ w = w' := by rw [← hF]; exact all_any a n c w hn
theorem tBools : SliceT Tryd.prog 100 4 (.bool false) := ⟨Tryd.underlying100, 1, by decide, by kernel_rfl, rfl⟩
end Go.Proofs.YtdncmloajajiaaaDoor
