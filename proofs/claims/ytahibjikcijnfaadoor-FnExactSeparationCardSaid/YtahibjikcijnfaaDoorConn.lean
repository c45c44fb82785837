/- ConnectedIn: both. -/
import Derived.Test.YtahibjikcijnfaaDoorFar
import Derived.Test.YtahibjikcijnfaaDoorReach
import Derived.Deep.RegionHeld3
namespace Go.Proofs.YtahibjikcijnfaaDoor
open Go.RowKit
def ConnIn (g : List (List Int)) (s : List Int) : Prop := SetP g s ∧ ConnP g s
noncomputable instance (g : List (List Int)) (s : List Int) : Decidable (ConnIn g s) := Classical.propDecidable _
/-- .. over sets. -/
def ConnA (A : List Nat) (s : Nat) : Prop := s ≠ 0 ∧ ∀ u, s.testBit u = true → Leads A s (low s) u
noncomputable instance (A : List Nat) (s : Nat) : Decidable (ConnA A s) := Classical.propDecidable _
theorem leads_in {A : List Nat} {s v : Nat} (hv : s.testBit v = true) {u : Nat} (h : Leads A s v u) : s.testBit u = true := by
  obtain ⟨d, hd⟩ := h
  induction d generalizing u with
  | zero => have e : u = v := hd
            rw [e]; exact hv
  | succ d ih =>
    rcases hd with h1 | ⟨h1, _⟩
    · exact ih h1
    · exact h1
/-- Of a set of a graph: connected, told both ways. -/
theorem conn_iff {g : List (List Int)} {s : List Int} (hs : SetP g s) : ConnA (g.map maskL) (maskL s) ↔ ConnP g s := by
  have hg := hs.1
  have h16 := hg.le
  have hnn : ∀ v ∈ s, 0 ≤ v := fun v hv => (hs.2.1 v hv).1
  have hbit : ∀ u : Nat, (maskL s).testBit u = true ↔ (u : Int) ∈ s := fun u => by rw [testBit_maskL s u hnn]; simp
  have hmem := mems_maskL hs.2 (by omega : ((g.length : Nat) : Int) ≤ 16)
  have hlt : maskL s < 65536 := maskL_lt s 16 (fun v hv => by have := hs.2.1 v hv; omega)
  have hnil : s ≠ [] ↔ maskL s ≠ 0 := by
    constructor
    · intro h he
      rw [he, mems_zero] at hmem; exact h hmem.symm
    · intro h he
      rw [he] at h; exact h rfl
  have hrow : ∀ x u : Nat, x < g.length → (((g.map maskL).getD x 0).testBit u = true ↔ (u : Int) ∈ row g (x : Int)) := by
    intro x u hx
    have e1 : (g.map maskL).getD x 0 = maskL (row g (x : Int)) := by
      rw [List.getD_eq_getElem?_getD, List.getElem?_map, List.getElem?_eq_getElem hx, row_nat _ _ hx]; rfl
    rw [e1, row_mask_bit hg x u hx]; simp
  have hball : ∀ v : Nat, (v : Int) ∈ s → ∀ d u, BallA (g.map maskL) (maskL s) v d u ↔ Ball g s (v : Int) d (u : Int) := by
    intro v hv d
    induction d with
    | zero =>
      intro u
      show u = v ↔ (u : Int) = (v : Int)
      omega
    | succ d ih =>
      intro u
      show (_ ∨ _) ↔ (_ ∨ _)
      rw [ih u, hbit u]
      constructor
      · rintro (h | ⟨h1, x, h2, h3⟩)
        · exact .inl h
        · have hx : x < g.length := by
            apply Classical.byContradiction
            intro hn
            rw [List.getD_eq_getElem?_getD, List.getElem?_eq_none (by simp; omega)] at h3
            simp at h3
          exact .inr ⟨h1, (x : Int), (ih x).1 h2, (hrow x u hx).1 h3⟩
      · rintro (h | ⟨h1, x, h2, h3⟩)
        · exact .inl h
        · have hx := hs.2.1 x (ball_in hv h2)
          obtain ⟨m, rfl⟩ := Int.eq_ofNat_of_zero_le hx.1
          exact .inr ⟨h1, m, (ih m).2 h2, (hrow m u (by omega)).2 h3⟩
  unfold ConnA ConnP
  rw [hnil]
  constructor
  · rintro ⟨h0, h⟩
    have hc := mems_cons h0 (show maskL s < 4294967296 by omega)
    rw [hmem] at hc
    have hv : s.getD 0 0 = (low (maskL s) : Int) := congrArg (fun l : List Int => l.getD 0 0) hc
    have hvs : (low (maskL s) : Int) ∈ s := (hbit _).1 (low_bit h0 (by omega))
    refine ⟨h0, fun u hu => ?_⟩
    have hu0 := hs.2.1 u hu
    obtain ⟨m, rfl⟩ := Int.eq_ofNat_of_zero_le hu0.1
    obtain ⟨d, hd⟩ := h m ((hbit m).2 hu)
    rw [hv]
    exact ⟨d, (hball _ hvs d m).1 hd⟩
  · rintro ⟨h0, h⟩
    have hc := mems_cons h0 (show maskL s < 4294967296 by omega)
    rw [hmem] at hc
    have hv : s.getD 0 0 = (low (maskL s) : Int) := congrArg (fun l : List Int => l.getD 0 0) hc
    have hvs : (low (maskL s) : Int) ∈ s := (hbit _).1 (low_bit h0 (by omega))
    refine ⟨h0, fun u hu => ?_⟩
    obtain ⟨d, hd⟩ := h (u : Int) ((hbit u).1 hu)
    rw [hv] at hd
    exact ⟨d, (hball _ hvs d u).2 hd⟩
end Go.Proofs.YtahibjikcijnfaaDoor
