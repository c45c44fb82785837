/- The least path down the distances: plain. -/
import Derived.Test.YtlnhfafnhclolaaDoorDist
import Derived.Test.YtlnhfafnhclolaaDoorPerfM
namespace Go.Proofs.YtlnhfafnhclolaaDoor
open Go.RowKit
def hop (R D : List Int) (t : Int) : Int := (R.find? fun x => decide (D.getD x.toNat 0 = t)).getD 0
def downL (R : Int → List Int) (D : List Int) : Nat → Int → List Int
  | 0, u => [u]
  | d + 1, u => u :: downL R D d (hop (R u) D d)
structure Desc (n : Nat) (R : Int → List Int) (D : List Int) : Prop where
  rng : ∀ u : Int, 0 ≤ u → u < n → ∀ x ∈ R u, 0 ≤ x ∧ x < n
  down : ∀ u : Int, 0 ≤ u → u < n → ∀ d : Nat, D.getD u.toNat 0 = (d : Int) + 1 → ∃ x ∈ R u, D.getD x.toNat 0 = d
theorem hop_spec {R D : List Int} {t : Int} (h : ∃ x ∈ R, D.getD x.toNat 0 = t) : hop R D t ∈ R ∧ D.getD (hop R D t).toNat 0 = t := by
  unfold hop
  cases hf : R.find? (fun x => decide (D.getD x.toNat 0 = t)) with
  | none =>
    obtain ⟨x, hx, hd⟩ := h
    have := List.find?_eq_none.1 hf x hx
    simp at this; exact absurd hd this
  | some y =>
    have h1 := List.mem_of_find?_eq_some hf
    have h2 := List.find?_some hf
    exact ⟨h1, by simpa using h2⟩
theorem hop_at {R D : List Int} {t : Int} {k : Nat} (hk : k < R.length) (h : ∀ j (hj : j < k), D.getD (R[j]'(by omega)).toNat 0 ≠ t) (hp : D.getD R[k].toNat 0 = t) : hop R D t = R[k] := by
  unfold hop
  rw [find_at hk (fun j hj => by simpa using h j hj) (by simpa using hp)]
  rfl
theorem downL_len (R : Int → List Int) (D : List Int) (d : Nat) (u : Int) : (downL R D d u).length = d + 1 := by
  induction d generalizing u with
  | zero => rfl
  | succ d ih => simp [downL, ih]
/-- The distances of a graph go down by one at some neighbour. -/
theorem desc_far {g : List (List Int)} {s : List Int} (hs : SetP g s) {v : Int} (hv : v ∈ s) : Desc g.length (row g) (farL g s v) := by
  have hget : ∀ x : Int, 0 ≤ x → x < g.length → (farL g s v).getD x.toNat 0 = far g s v x := by
    intro x h0 h1
    obtain ⟨m, rfl⟩ := Int.eq_ofNat_of_zero_le h0
    rw [Int.toNat_natCast, getD_eq _ m (by rw [farL_len]; omega)]
    simp [farL]
  refine ⟨fun u h0 h1 x hx => row_mem hs.1 h0 h1 hx, ?_⟩
  intro u h0 h1 d hd
  rw [hget u h0 h1] at hd
  have hr : ∃ d, Ball g s v d u := far_nonneg.1 (by omega)
  obtain ⟨e, h2, h3, h4⟩ := far_spec hr
  obtain rfl : e = d + 1 := by omega
  rcases h3 with h3 | ⟨h5, x, h6, h7⟩
  · exact absurd h3 (h4 d (by omega))
  · have hx := hs.2.1 x (ball_in hv h6)
    obtain ⟨m, rfl⟩ := Int.eq_ofNat_of_zero_le hx.1
    refine ⟨(m : Int), hs.1.sym m (by omega) u h7, ?_⟩
    rw [hget m hx.1 hx.2]
    apply far_eq h6
    intro e he
    apply Classical.byContradiction
    intro hn
    exact h4 (e + 1) (by omega) (.inr ⟨h5, (m : Int), he, h7⟩)
end Go.Proofs.YtlnhfafnhclolaaDoor
