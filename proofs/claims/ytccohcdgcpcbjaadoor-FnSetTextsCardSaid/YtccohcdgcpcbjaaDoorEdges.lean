/- Lists and graphs are compared: the reference's l1Same, l1SameGraph, SameGraph, the library's Equal, EqualFunc, the program's SameGraph. · The edges of a graph: the reference's and the program's. -/
import Derived.Test.YtccohcdgcpcbjaaDoorSetOk
import Derived.Test.YtccohcdgcpcbjaaDoorBag
import Derived.Test.YtccohcdgcpcbjaaDoorMem3
namespace Go.Proofs.YtccohcdgcpcbjaaDoor
open Go.RowKit
section

theorem nums_at {rs : List Row} {qs : List Row} (h : nums rs = nums qs) : rs.length = qs.length := by simpa [nums] using congrArg List.length h
def SameP (g g' : List (List Int)) : Prop := GOk g ∧ GOk g' ∧ g = g'
noncomputable instance (g g' : List (List Int)) : Decidable (SameP g g') := Classical.propDecidable _
end
section

theorem rows_push {eo ei : TypeId} (hne : ei ≠ eo) {W w' : World} {B : Nat} {v v' : Value} {rs' : List Row} {r : Row} (ho : Own eo W B v (rs'.map Row.val)) (hi : Inner ei W B (rs' ++ [r]))
    (ho' : Own eo w' B v' (rs'.map Row.val ++ [r.val])) (hg : W.grownBy w' v.ownBlock) : OwnM eo ei w' B v' (rs' ++ [r]) := ⟨by simpa using ho', hi.kept_outer ho hne hg⟩
theorem nums_push (ps : List Row) (r : Row) : nums (ps ++ [r]) = nums ps ++ [r.z] := by simp [nums]
theorem own_new (e : TypeId) (w : World) (xs : List Value) (h : xs.length ≤ maxLen) : Own e (w.alloc (.cells xs.toArray e)) w.heap.size (.slice (some ⟨w.heap.size, 0, none⟩) xs.length xs.length) xs :=
  Own.of_block (spare := []) (Nat.le_refl _) (by rw [List.append_nil]; exact heap_alloc_new w _) (by simp) h
def rowEdges (u : Int) (r : List Int) : List (List Int) := (r.filter fun v => decide (u < v)).map fun v => [u, v]
def edgesL (g : List (List Int)) : List (List Int) := (List.range g.length).flatMap fun u : Nat => rowEdges u (row g u)
/-- The edges of the first k rows. -/
def edgesTo (g : List (List Int)) (k : Nat) : List (List Int) := (List.range k).flatMap fun u : Nat => rowEdges u (row g u)
theorem edgesTo_succ (g : List (List Int)) (k : Nat) : edgesTo g (k + 1) = edgesTo g k ++ rowEdges k (row g k) := by simp [edgesTo, List.range_succ]
theorem rowEdges_succ (u : Int) (r : List Int) (j : Nat) (h : j < r.length) : rowEdges u (r.take (j + 1)) = rowEdges u (r.take j) ++ if u < r[j] then [[u, r[j]]] else [] := by
  rw [List.take_succ_eq_append_getElem h]
  simp only [rowEdges, List.filter_append, List.map_append]
  by_cases hh : u < r[j] <;> simp [List.filter, hh]
theorem rowEdges_len (u : Int) (r : List Int) : (rowEdges u r).length ≤ r.length := by simp [rowEdges]; exact List.length_filter_le _ _
theorem edgesTo_len (g : List (List Int)) (k : Nat) (h : ∀ v : Nat, v < k → (row g v).length ≤ 16) : (edgesTo g k).length ≤ 16 * k := by
  induction k with
  | zero => simp [edgesTo]
  | succ k ih =>
    rw [edgesTo_succ, List.length_append]
    have := ih (fun v hv => h v (by omega))
    have := rowEdges_len k (row g k)
    have := h k (by omega)
    omega
theorem gok_row_len {g : List (List Int)} (h : GOk g) (v : Nat) (hv : v < g.length) : (row g v).length ≤ 16 := by
  have := inc_length (h.inc v hv) (by omega)
  have := h.le
  omega
/-- What EdgesOf answers. -/
noncomputable def edgesOr (g : List (List Int)) : List (List Int) := open Classical in if GOk g then edgesL g else []
theorem ownM_nil (eo ei : TypeId) (w : World) (B : Nat) : OwnM eo ei w B (.slice none 0 0) [] := ⟨Own.nil _ _ _, Inner.nil _ _ _⟩
end
end Go.Proofs.YtccohcdgcpcbjaaDoor
