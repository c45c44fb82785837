/- A vertex is eliminated, and the order that takes the cheapest: the program's. · The order that takes the cheapest: the program's. -/
import Derived.Test.YtdncmloajajiaaaDoorElimM
import Derived.Test.YtdncmloajajiaaaDoorMiss
import Derived.Test.YtdncmloajajiaaaDoorClique
import Derived.Test.YtdncmloajajiaaaDoorLeft
import Derived.Test.YtdncmloajajiaaaDoorMem3
import Derived.Deep.RegionWith
import Derived.Test.YtdncmloajajiaaaDoorBag
import Derived.Test.YtdncmloajajiaaaDoorCode2
import Derived.Test.YtdncmloajajiaaaDoorDegS
namespace Go.Proofs.YtdncmloajajiaaaDoor
open Go.RowKit
section
theorem ownM_rd {e : TypeId} {w : World} {B n c : Nat} {a : Option Addr} {A : List Nat} (h : Own e w B (.slice a n c) (A.map maskF)) : Rd maskF w a A := by
  obtain ⟨a', c', h1, h2, _⟩ := h.rd
  obtain ⟨rfl, _, rfl⟩ := slice_inj h1
  exact h2
theorem map_set_maskF (A : List Nat) (i x : Nat) : (A.map maskF).set i (maskF x) = (A.set i x).map maskF := by rw [List.map_set]
theorem elimL_lt {n : Nat} {A : List Nat} {N : Nat} {L : List Nat} (hA : GA n A) (hN : N < 2 ^ n) (hL : ∀ u ∈ L, u < A.length) (a : Nat) : (elimL A N L).getD a 0 < 2 ^ n := by
  refine mask_lt _ n (fun i hi => ?_)
  rcases (elimL_bit hL a i).1 hi with h | ⟨_, h⟩
  · exact (hA.lt h).2
  · rw [testBit_dif, Bool.and_eq_true] at h
    exact bit_under hN h.1
end
section
/-- What is asked of the cost: it answers of each set of a right graph, in whatever world has the table. -/
def Costs (P : Program) (F : FuncId) (fill : Bool) : Prop :=
  ∀ (b : Option Addr) (n cap : Nat) (A : List Nat) (M : Nat) (w : World), TabOk w → Rd maskF w b A → GA n A → M < 2 ^ n → Calls P F #[.slice b n cap, .int .u32 M] w fun e w' => e = .returned (.int .i64 (costF fill A M : Nat)) ∧ Below w.heap.size w w'
end
end Go.Proofs.YtdncmloajajiaaaDoor
