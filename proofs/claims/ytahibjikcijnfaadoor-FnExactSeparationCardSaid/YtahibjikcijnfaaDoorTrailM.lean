/- Plain facts on loops in a graph. -/
import Derived.Test.YtahibjikcijnfaaDoorMask
namespace Go.Proofs.YtahibjikcijnfaaDoor
theorem gok_range {g : List (List Int)} (h : GOk g) {u v : Int} (h0 : 0 ≤ u) (hu : u < g.length) (hv : v ∈ row g u) : 0 ≤ v ∧ v < g.length := by
  obtain ⟨m, rfl⟩ := Int.eq_ofNat_of_zero_le h0
  exact (h.inc m (by omega)).1 v hv
theorem gok_sym {g : List (List Int)} (h : GOk g) {u v : Int} (h0 : 0 ≤ u) (hu : u < g.length) (hv0 : 0 ≤ v) (hv1 : v < g.length) : v ∈ row g u ↔ u ∈ row g v := by
  obtain ⟨m, rfl⟩ := Int.eq_ofNat_of_zero_le h0
  obtain ⟨n, rfl⟩ := Int.eq_ofNat_of_zero_le hv0
  exact ⟨fun hh => h.sym m (by omega) n hh, fun hh => h.sym n (by omega) m hh⟩
/-- The first k of a list are distinct vertices, each a neighbour of the one before. -/
def TrailTo (g : List (List Int)) (l : List Int) (k : Nat) : Prop :=
  ∀ i, i < k → (0 ≤ l.getD i 0 ∧ l.getD i 0 < g.length) ∧ l.getD i 0 ∉ l.take i ∧ (0 < i → l.getD i 0 ∈ row g (l.getD (i - 1) 0))
noncomputable instance (g : List (List Int)) (l : List Int) (k : Nat) : Decidable (TrailTo g l k) := Classical.propDecidable _
theorem trail_zero (g : List (List Int)) (l : List Int) : TrailTo g l 0 := fun i hi => absurd hi (Nat.not_lt_zero i)
theorem trail_succ {g : List (List Int)} {l : List Int} {k : Nat} (h : TrailTo g l k) (h1 : 0 ≤ l.getD k 0 ∧ l.getD k 0 < g.length) (h2 : l.getD k 0 ∉ l.take k) (h3 : 0 < k → l.getD k 0 ∈ row g (l.getD (k - 1) 0)) : TrailTo g l (k + 1) := by
  intro i hi
  rcases Nat.lt_succ_iff_lt_or_eq.1 hi with h4 | rfl
  · exact h i h4
  · exact ⟨h1, h2, h3⟩
theorem getD_eq (l : List Int) (k : Nat) (h : k < l.length) : l.getD k 0 = l[k] := by simp [List.getD, List.getElem?_eq_getElem h]
theorem trail_range {g : List (List Int)} {l : List Int} {k : Nat} (h : TrailTo g l k) (hk : k ≤ l.length) : ∀ v ∈ l.take k, 0 ≤ v ∧ v < g.length := by
  intro v hv
  obtain ⟨i, hi, rfl⟩ := List.mem_iff_getElem.1 hv
  have hi' : i < k := by simp at hi; omega
  have := (h i hi').1
  rw [getD_eq l i (by omega)] at this
  rw [List.getElem_take]; exact this
theorem trail_nodup {g : List (List Int)} {l : List Int} {k : Nat} (h : TrailTo g l k) (hk : k ≤ l.length) : (l.take k).Nodup := by
  rw [List.nodup_iff_pairwise_ne, List.pairwise_iff_getElem]
  intro i j hi hj hij
  have hj' : j < k := by simp at hj; omega
  have := (h j hj').2.1
  rw [getD_eq l j (by omega)] at this
  rw [List.getElem_take, List.getElem_take]
  intro e
  apply this
  rw [← e]
  exact List.mem_take_iff_getElem.2 ⟨i, by omega, rfl⟩
/-- Distinct numbers from 0 to n - 1 are at most n. -/
theorem nodup_le (l : List Int) (n : Nat) (hd : l.Nodup) (h : ∀ v ∈ l, 0 ≤ v ∧ v < n) : l.length ≤ n := by
  have hs : l ⊆ (List.range n).map (fun i : Nat => (i : Int)) := by
    intro v hv
    obtain ⟨m, rfl⟩ := Int.eq_ofNat_of_zero_le (h v hv).1
    exact List.mem_map.2 ⟨m, List.mem_range.2 (by have := (h _ hv).2; omega), rfl⟩
  have := hd.length_le_of_subset hs
  simpa using this
structure LoopP (g : List (List Int)) (l : List Int) : Prop where
  ok : GOk g
  long : 3 ≤ l.length
  trail : TrailTo g l l.length
  back : l.getD (l.length - 1) 0 ∈ row g (l.getD 0 0)
noncomputable instance (g : List (List Int)) (l : List Int) : Decidable (LoopP g l) := Classical.propDecidable _
theorem LoopP.le {g : List (List Int)} {l : List Int} (h : LoopP g l) : l.length ≤ g.length := by
  have h1 := trail_nodup h.trail (Nat.le_refl _)
  have h2 := trail_range h.trail (Nat.le_refl _)
  rw [List.take_length] at h1 h2
  exact nodup_le l g.length h1 h2
end Go.Proofs.YtahibjikcijnfaaDoor
