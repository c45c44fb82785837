/- An odd chain: plain. -/
import Derived.Test.YtggjmnihnjdoaaaDoorForS
import Derived.Test.YtggjmnihnjdoaaaDoorForM
import Derived.Test.YtggjmnihnjdoaaaDoorEdgeIn
namespace Go.Proofs.YtggjmnihnjdoaaaDoor
open Go.RowKit
def cdI (l : List Int) : Nat := cod (l.getD 0 0).toNat (l.getD 1 0).toNat
/-- l tells an arrow of g. -/
def ArrP (g : List (List Int)) (l : List Int) : Prop := l.length = 2 ∧ EdgeP g (l.getD 0 0) (l.getD 1 0)
theorem arr_pr {g : List (List Int)} {l : List Int} (h : ArrP g l) : l = prI (cdI l) ∧ cdI l < 256 ∧ cdI l / 16 < g.length ∧ cdI l % 16 < g.length := by
  obtain ⟨h1, ⟨hg, h2, h3⟩, h4⟩ := h
  have h5 := row_mem hg h2 h3 h4
  have h16 := hg.le
  match l, h1 with
  | [x, y], _ =>
    simp only [List.getD_cons_zero, List.getD_cons_succ] at h2 h3 h5
    obtain ⟨a, rfl⟩ := Int.eq_ofNat_of_zero_le h2
    obtain ⟨b, rfl⟩ := Int.eq_ofNat_of_zero_le h5.1
    have hb : b < 16 := by omega
    have e : cdI [(a : Int), (b : Int)] = cod a b := rfl
    rw [e]
    unfold prI
    rw [cod_div hb, cod_mod hb]
    refine ⟨rfl, ?_, by omega, by omega⟩
    unfold cod; omega
theorem cdI_pr {x : Nat} : cdI (prI x) = x := by unfold cdI prI; simp; unfold cod; omega
def OcP (g z : List (List Int)) : Prop :=
  GOk g ∧ (2 ≤ z.length ∧ z.length ≤ 240) ∧ (∀ l ∈ z, ArrP g l) ∧ (∀ i (h : i + 1 < z.length), cdI z[i + 1] ∈ frL (g.map maskL) (cdI z[i])) ∧ cdI (z.getD (z.length - 1) []) = opp (cdI (z.getD 0 []))
noncomputable instance (g z : List (List Int)) : Decidable (OcP g z) := Classical.propDecidable _
noncomputable instance (g : List (List Int)) (l : List Int) : Decidable (ArrP g l) := Classical.propDecidable _
end Go.Proofs.YtggjmnihnjdoaaaDoor
