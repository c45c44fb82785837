/- Plain facts: where a run of places is whole. -/
import Derived.WalkKit
namespace Go.Proofs.YtahibjikcijnfaaDoor
/-- How many places under n have P. -/
def cntR (n : Nat) (P : Nat → Bool) : Nat := ((List.range n).filter P).length
theorem cntR_succ (n : Nat) (P : Nat → Bool) : cntR (n + 1) P = cntR n P + if P n then 1 else 0 := by
  unfold cntR
  rw [List.range_succ, List.filter_append, List.length_append]
  cases h : P n <;> simp [h]
theorem cntR_le (n : Nat) (P : Nat → Bool) : cntR n P ≤ n := by have := List.length_filter_le P (List.range n); simpa [cntR] using this
/-- All that have P lie between f and l: they are l - f + 1 just where all between have P. -/
theorem cntR_run {n f l : Nat} {P : Nat → Bool} (hl : l < n) (hfl : f ≤ l) (hin : ∀ i, i < n → P i = true → f ≤ i ∧ i ≤ l) :
    cntR n P = l - f + 1 ↔ ∀ i, f ≤ i → i ≤ l → P i = true := by
  have hd : ((List.range n).filter P).Nodup := List.nodup_range.filter _
  constructor
  · intro h i h1 h2
    apply Classical.byContradiction
    intro hn
    have hs : (List.range n).filter P ⊆ (List.range' f (l - f + 1)).erase i := by
      intro x hx
      rw [List.mem_filter, List.mem_range] at hx
      have hxi : x ≠ i := by rintro rfl; exact hn hx.2
      rw [List.mem_erase_of_ne hxi, List.mem_range'_1]
      have := hin x hx.1 hx.2
      omega
    have h3 := hd.length_le_of_subset hs
    have h4 : i ∈ List.range' f (l - f + 1) := by rw [List.mem_range'_1]; omega
    rw [List.length_erase_of_mem h4, List.length_range'] at h3
    unfold cntR at h
    omega
  · intro h
    have hs : List.range' f (l - f + 1) ⊆ (List.range n).filter P := by
      intro x hx
      rw [List.mem_range'_1] at hx
      rw [List.mem_filter, List.mem_range]
      exact ⟨by omega, h x hx.1 (by omega)⟩
    have h1 := (List.nodup_range' (s := f) (n := l - f + 1)).length_le_of_subset hs
    have hs2 : (List.range n).filter P ⊆ List.range' f (l - f + 1) := by
      intro x hx
      rw [List.mem_filter, List.mem_range] at hx
      rw [List.mem_range'_1]
      have := hin x hx.1 hx.2
      omega
    have h2 := hd.length_le_of_subset hs2
    rw [List.length_range'] at h1 h2
    unfold cntR
    omega
end Go.Proofs.YtahibjikcijnfaaDoor
