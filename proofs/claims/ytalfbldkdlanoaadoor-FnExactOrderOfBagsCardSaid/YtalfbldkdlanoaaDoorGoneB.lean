/- Plain facts: a vertex that has left the bags. -/
import Derived.Test.YtalfbldkdlanoaaDoorWhole
namespace Go.Proofs.YtalfbldkdlanoaaDoor
/-- v was in a bag and was missing from a later one, both under k. -/
def Gone (g : List (List Int)) (k : Nat) (v : Int) : Prop := ∃ i j, i < j ∧ j < k ∧ inBag g v i = true ∧ inBag g v j = false
theorem gone_zero (g : List (List Int)) (v : Int) : ¬ Gone g 0 v := fun ⟨_, _, _, h, _⟩ => absurd h (Nat.not_lt_zero _)
theorem gone_succ (g : List (List Int)) (k : Nat) (v : Int) : Gone g (k + 1) v ↔ Gone g k v ∨ (0 < k ∧ inBag g v (k - 1) = true ∧ inBag g v k = false) := by
  constructor
  · rintro ⟨i, j, h1, h2, h3, h4⟩
    rcases Nat.lt_succ_iff_lt_or_eq.1 h2 with h5 | rfl
    · exact .inl ⟨i, j, h1, h5, h3, h4⟩
    · cases hp : inBag g v (j - 1)
      · refine .inl ⟨i, j - 1, ?_, by omega, h3, hp⟩
        apply Nat.lt_of_le_of_ne (by omega)
        rintro rfl
        rw [h3] at hp; cases hp
      · exact .inr ⟨by omega, rfl, h4⟩
  · rintro (⟨i, j, h1, h2, h3, h4⟩ | ⟨h1, h2, h3⟩)
    · exact ⟨i, j, h1, by omega, h3, h4⟩
    · exact ⟨k - 1, k, by omega, by omega, h2, h3⟩
/-- No bag holds one that is gone, just where each vertex' places are a run. -/
theorem run_iff (g : List (List Int)) (v : Int) : (∀ i j k, i ≤ j → j ≤ k → k < g.length → inBag g v i = true → inBag g v k = true → inBag g v j = true) ↔ ∀ k, k < g.length → ¬ (inBag g v k = true ∧ Gone g k v) := by
  constructor
  · rintro h k hk ⟨h1, i, j, h2, h3, h4, h5⟩
    have := h i j k (by omega) (by omega) hk h4 h1
    rw [h5] at this; cases this
  · intro h i j k hij hjk hk hi hkb
    cases hj : inBag g v j
    · have h1 : i ≠ j := by rintro rfl; rw [hi] at hj; cases hj
      have h2 : j ≠ k := by rintro rfl; rw [hkb] at hj; cases hj
      exact absurd ⟨hkb, i, j, by omega, by omega, hi, hj⟩ (h k hk)
    · rfl
end Go.Proofs.YtalfbldkdlanoaaDoor
