/- Plain facts on sets of vertices and on graphs: no program is in sight. -/
import Derived.WalkKit
namespace Go.Proofs.YtahibjikcijnfaaDoor
/-- s is strictly increasing, from 0 to n - 1. -/
def Inc (n : Int) (s : List Int) : Prop := (∀ x ∈ s, 0 ≤ x ∧ x < n) ∧ s.Pairwise (· < ·)
instance (n : Int) (s : List Int) : Decidable (Inc n s) := by unfold Inc; infer_instance
theorem inc_nil (n : Int) : Inc n [] := ⟨fun x h => (by cases h), .nil⟩
theorem inc_take {n : Int} {s : List Int} (h : Inc n s) (k : Nat) : Inc n (s.take k) := ⟨fun x hx => h.1 x (List.mem_of_mem_take hx), h.2.sublist (List.take_sublist k s)⟩
theorem inc_take_succ (n : Int) (s : List Int) (k : Nat) (hk : k < s.length) (h : Inc n (s.take k)) (h1 : 0 ≤ s[k] ∧ s[k] < n) (h2 : ∀ h0 : 0 < k, s[k - 1] < s[k]) : Inc n (s.take (k + 1)) := by
  rw [List.take_succ_eq_append_getElem hk]
  refine ⟨fun x hx => ?_, ?_⟩
  · rcases List.mem_append.1 hx with h3 | h3
    · exact h.1 x h3
    · simp at h3; subst h3; exact h1
  · rw [List.pairwise_append]
    refine ⟨h.2, by simp, fun x hx y hy => ?_⟩
    simp at hy; subst hy
    obtain ⟨j, hj, rfl⟩ := List.mem_iff_getElem.1 hx
    have hj' : j < k := by simp at hj; omega
    rw [List.getElem_take]
    have hl := h2 (by omega)
    by_cases e : j = k - 1
    · subst e; exact hl
    · have := (List.pairwise_iff_getElem.1 h.2) j (k - 1) (by simp; omega) (by simp; omega) (by omega)
      rw [List.getElem_take, List.getElem_take] at this
      omega
theorem inc_get {n : Int} {s : List Int} (h : Inc n s) (k : Nat) (hk : k < s.length) : 0 ≤ s[k] ∧ s[k] < n := h.1 _ (List.getElem_mem hk)
theorem inc_lt {n : Int} {s : List Int} (h : Inc n s) (i k : Nat) (hk : k < s.length) (hi : i < k) : s[i] < s[k] := (List.pairwise_iff_getElem.1 h.2) i k (by omega) hk hi
theorem inc_ge {n : Int} {s : List Int} (h : Inc n s) (k : Nat) (hk : k < s.length) : (k : Int) ≤ s[k] := by
  induction k with
  | zero => exact (inc_get h 0 hk).1
  | succ k ih =>
    have := ih (by omega)
    have := inc_lt h k (k + 1) hk (by omega)
    omega
theorem inc_length {n : Int} {s : List Int} (h : Inc n s) (hn : 0 ≤ n) : (s.length : Int) ≤ n := by
  rcases Nat.eq_zero_or_pos s.length with h0 | h0
  · omega
  · have := inc_ge h (s.length - 1) (by omega)
    have := (inc_get h (s.length - 1) (by omega)).2
    omega
/-- The row of a vertex. -/
def row (g : List (List Int)) (v : Int) : List Int := g.getD v.toNat []
/-- A valid graph. -/
structure GOk (g : List (List Int)) : Prop where
  pos : 1 ≤ g.length
  le : g.length ≤ 16
  inc : ∀ v : Nat, v < g.length → Inc g.length (row g v)
  irr : ∀ v : Nat, v < g.length → (v : Int) ∉ row g v
  sym : ∀ v : Nat, v < g.length → ∀ u ∈ row g v, (v : Int) ∈ row g u
noncomputable instance (g : List (List Int)) : Decidable (GOk g) := Classical.propDecidable _
theorem row_nat (g : List (List Int)) (v : Nat) (h : v < g.length) : row g v = g[v] := by simp [row, List.getD, List.getElem?_eq_getElem h]
end Go.Proofs.YtahibjikcijnfaaDoor
