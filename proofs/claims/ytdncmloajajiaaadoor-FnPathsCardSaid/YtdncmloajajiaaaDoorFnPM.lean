/- FnPaths, plain: a way down the distances, distances at an edge. -/
import Derived.Test.YtdncmloajajiaaaDoorPathA
namespace Go.Proofs.YtdncmloajajiaaaDoor
open Go.RowKit
section
theorem down_at {n : Nat} {R : Int → List Int} {D : List Int} (h : Desc n R D) : ∀ (d : Nat) (u : Int), 0 ≤ u → u < n → D.getD u.toNat 0 = (d : Int) →
    (downL R D d u).getD 0 0 = u ∧ ∀ i, i ≤ d → (0 ≤ (downL R D d u).getD i 0 ∧ (downL R D d u).getD i 0 < n) ∧ D.getD ((downL R D d u).getD i 0).toNat 0 = (d : Int) - i ∧ (i < d → (downL R D d u).getD (i + 1) 0 ∈ R ((downL R D d u).getD i 0)) := by
  intro d
  induction d with
  | zero =>
    intro u h0 h1 hd
    refine ⟨rfl, fun i hi => ?_⟩
    obtain rfl : i = 0 := by omega
    exact ⟨⟨h0, h1⟩, by rw [show (downL R D 0 u).getD 0 0 = u from rfl, hd]; simp, fun hi => by omega⟩
  | succ d ih =>
    intro u h0 h1 hd
    obtain ⟨h2, h3⟩ := hop_spec (h.down u h0 h1 d (by rw [hd]; simp))
    have h4 := h.rng u h0 h1 _ h2
    obtain ⟨h5, h6⟩ := ih _ h4.1 h4.2 h3
    rw [downL_succ]
    refine ⟨rfl, fun i hi => ?_⟩
    cases i with
    | zero =>
      refine ⟨⟨h0, h1⟩, by rw [List.getD_cons_zero, hd]; simp, fun _ => ?_⟩
      rw [List.getD_cons_succ, List.getD_cons_zero, h5]
      exact h2
    | succ i =>
      obtain ⟨h7, h8, h9⟩ := h6 i (by omega)
      rw [List.getD_cons_succ]
      refine ⟨h7, by rw [h8]; omega, fun hi2 => ?_⟩
      rw [List.getD_cons_succ]
      exact h9 (by omega)
theorem far_edge {g : List (List Int)} {s : List Int} {v x y : Int} (hy : y ∈ row g x) (hs : y ∈ s) (h0 : 0 ≤ far g s v x) : 0 ≤ far g s v y ∧ far g s v y ≤ far g s v x + 1 := by
  obtain ⟨d, h1, h2, _⟩ := far_spec (far_nonneg.1 h0)
  have hb : Ball g s v (d + 1) y := .inr ⟨hs, x, h2, hy⟩
  obtain ⟨e, h3, h4, h5⟩ := far_spec ⟨d + 1, hb⟩
  have : e ≤ d + 1 := by
    apply Classical.byContradiction
    intro hn
    exact h5 (d + 1) (by omega) hb
  omega
theorem far_ge (g : List (List Int)) (s : List Int) (v x : Int) : -1 ≤ far g s v x := by
  by_cases h : ∃ d, Ball g s v d x
  · obtain ⟨d, h1, _⟩ := far_spec h; omega
  · rw [far_none h]; omega
/-- All that the law asks of the way. -/
theorem path_facts {g : List (List Int)} {u v : Int} (hu : VertP g u) (hv : VertP g v) :
    ((pathL g u v).length : Int) = (distL g v).getD u.toNat 0 + 1 ∧
    (∀ i, i + 1 < (pathL g u v).length → (0 ≤ (pathL g u v).getD i 0 ∧ (pathL g u v).getD i 0 < g.length) ∧ (0 ≤ (pathL g u v).getD (i + 1) 0 ∧ (pathL g u v).getD (i + 1) 0 < g.length) ∧ EdgeP g ((pathL g u v).getD i 0) ((pathL g u v).getD (i + 1) 0) ∧ (distL g v).getD ((pathL g u v).getD i 0).toNat 0 = (distL g v).getD ((pathL g u v).getD (i + 1) 0).toNat 0 + 1 ∧ 0 ≤ (distL g v).getD ((pathL g u v).getD (i + 1) 0).toNat 0 ∧ (distL g v).getD ((pathL g u v).getD (i + 1) 0).toNat 0 ≤ ((pathL g u v).length : Int)) ∧
    ((pathL g u v).length = 0 ∨ ((pathL g u v).getD 0 0 = u ∧ (pathL g u v).getD ((pathL g u v).length - 1) 0 = v)) := by
  have hd : distL g v = farL g (allL g.length) v := by unfold distL; rw [if_pos hv]
  have hfu := farL_get (s := allL g.length) (v := v) hu.2.1 hu.2.2
  have hm := (allL_mem g.length v).2 hv.2
  have hD := desc_far (setP_all hv.1) hm
  by_cases h0 : 0 ≤ far g (allL g.length) v u
  · obtain ⟨d, hdd⟩ := Int.eq_ofNat_of_zero_le h0
    have hp : pathL g u v = downL (row g) (farL g (allL g.length) v) d u := by
      unfold pathL
      rw [if_pos ⟨hu, hv⟩, if_pos h0, hdd]; rfl
    obtain ⟨h1, h2⟩ := down_at hD d u hu.2.1 hu.2.2 (by rw [hfu, hdd])
    have hl : (pathL g u v).length = d + 1 := by rw [hp, downL_len]
    rw [hd, hfu, hdd, hl, hp]
    refine ⟨by omega, fun i hi => ?_, .inr ⟨h1, ?_⟩⟩
    · obtain ⟨a1, a2, a3⟩ := h2 i (by omega)
      obtain ⟨b1, b2, _⟩ := h2 (i + 1) (by omega)
      exact ⟨a1, b1, ⟨⟨hu.1, a1⟩, a3 (by omega)⟩, by rw [a2, b2]; omega, by rw [b2]; omega, by rw [b2]; omega⟩
    · obtain ⟨a1, a2, _⟩ := h2 d (Nat.le_refl _)
      rw [farL_get a1.1 a1.2] at a2
      rw [show d + 1 - 1 = d by omega]
      exact far_zero.1 (by rw [a2]; omega)
  · have hn := far_ge g (allL g.length) v u
    have hp : pathL g u v = [] := by
      unfold pathL
      rw [if_pos ⟨hu, hv⟩, if_neg h0]
    rw [hd, hfu, hp]
    refine ⟨by simp; omega, fun i hi => by simp at hi, .inl rfl⟩
/-- Distances at an edge. -/
theorem dist_edge {g : List (List Int)} {v x y : Int} (hv : VertP g v) (hx : VertP g x) (hy : VertP g y) (h : y ∈ row g x) (h' : x ∈ row g y) :
    ((distL g v).getD x.toNat 0 - (distL g v).getD y.toNat 0 ≤ 1) ∧ ((distL g v).getD y.toNat 0 - (distL g v).getD x.toNat 0 ≤ 1) ∧ ((distL g v).getD x.toNat 0 < 0 ↔ (distL g v).getD y.toNat 0 < 0) := by
  have hd : distL g v = farL g (allL g.length) v := by unfold distL; rw [if_pos hv]
  rw [hd, farL_get hx.2.1 hx.2.2, farL_get hy.2.1 hy.2.2]
  have mx := (allL_mem g.length x).2 hx.2
  have my := (allL_mem g.length y).2 hy.2
  have h1 := far_edge (v := v) h my
  have h2 := far_edge (v := v) h' mx
  have h3 := far_ge g (allL g.length) v x
  have h4 := far_ge g (allL g.length) v y
  by_cases a : 0 ≤ far g (allL g.length) v x
  · have := h1 a
    have := h2 this.1
    omega
  · by_cases b : 0 ≤ far g (allL g.length) v y
    · have := h2 b; omega
    · omega
end
end Go.Proofs.YtdncmloajajiaaaDoor
