/- CliqueOk: both. -/
import Derived.Test.YtdncmloajajiaaaDoorMiss
import Derived.Test.YtdncmloajajiaaaDoorGone
namespace Go.Proofs.YtdncmloajajiaaaDoor
open Go.RowKit
def CliqueP (g : List (List Int)) (s : List Int) : Prop := SetP g s ∧ missL g s = 0
noncomputable instance (g : List (List Int)) (s : List Int) : Decidable (CliqueP g s) := Classical.propDecidable _
theorem SetP.len {g : List (List Int)} {s : List Int} (h : SetP g s) : s.length ≤ 16 := by
  have h1 := nodup_le s g.length (List.Pairwise.imp (fun h => by omega) h.2.2) (fun v hv => h.2.1 v hv)
  have := h.1.le; omega
theorem maskL_lt_len {n : Nat} {l : List Int} (h : Inc n l) : maskL l < 2 ^ n := maskL_lt l n (fun v hv => h.1 v hv)
theorem in16_of {g : List (List Int)} (h : GOk g) : ∀ x ∈ g.map maskL, x < 65536 := by
  intro x hx
  obtain ⟨l, hl, rfl⟩ := List.mem_map.1 hx
  obtain ⟨j, hj, rfl⟩ := List.mem_iff_getElem.1 hl
  have := row_mask_lt h j hj
  rwa [row_nat _ _ hj] at this
end Go.Proofs.YtdncmloajajiaaaDoor
