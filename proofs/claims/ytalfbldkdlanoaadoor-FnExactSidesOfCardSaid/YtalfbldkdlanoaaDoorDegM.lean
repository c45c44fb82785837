/- Degeneracy: plain. -/
import Derived.Test.YtalfbldkdlanoaaDoorGone
namespace Go.Proofs.YtalfbldkdlanoaaDoor
open Go.RowKit
def dgA (A : List Nat) (S v : Nat) : Nat := pcN 16 (A.getD v 0 &&& S)
def stepB (f : Nat → Nat) : Option Nat → Nat → Option Nat
  | none, v => some v
  | some b, v => if f v < f b then some v else some b
def bestO (f : Nat → Nat) (L : List Nat) : Option Nat := L.foldl (stepB f) none
theorem bestO_snoc (f : Nat → Nat) (L : List Nat) (v : Nat) : bestO f (L ++ [v]) = stepB f (bestO f L) v := by simp [bestO]
theorem stepB_some (f : Nat → Nat) (o : Option Nat) (v : Nat) : ∃ b, stepB f o v = some b := by
  cases o with
  | none => exact ⟨v, rfl⟩
  | some b => unfold stepB; by_cases h : f v < f b
              · exact ⟨v, by simp only; rw [if_pos h]⟩
              · exact ⟨b, by simp only; rw [if_neg h]⟩
theorem bestO_from (f : Nat → Nat) : ∀ (L : List Nat) (o : Option Nat) (b : Nat), L.foldl (stepB f) o = some b → b ∈ L ∨ o = some b := by
  intro L
  induction L with
  | nil => intro o b h; exact .inr h
  | cons v L ih =>
    intro o b h
    rcases ih _ b h with h1 | h1
    · exact .inl (List.mem_cons_of_mem _ h1)
    · cases o with
      | none => injection h1 with h1; subst h1; exact .inl List.mem_cons_self
      | some b0 =>
        unfold stepB at h1
        simp only at h1
        by_cases h2 : f v < f b0
        · rw [if_pos h2] at h1; injection h1 with h1; subst h1; exact .inl List.mem_cons_self
        · rw [if_neg h2] at h1; exact .inr h1
theorem bestO_mem {f : Nat → Nat} {L : List Nat} {b : Nat} (h : bestO f L = some b) : b ∈ L := by
  rcases bestO_from f L none b h with h | h
  · exact h
  · cases h
theorem bestO_is (f : Nat → Nat) : ∀ (L : List Nat) (o : Option Nat), (∃ b, o = some b) → ∃ b, L.foldl (stepB f) o = some b := by
  intro L
  induction L with
  | nil => intro o h; exact h
  | cons v L ih => intro o _; exact ih _ (stepB_some f o v)
theorem bestO_some (f : Nat → Nat) {L : List Nat} (h : L ≠ []) : ∃ b, bestO f L = some b := by
  cases L with
  | nil => exact absurd rfl h
  | cons v L => exact bestO_is f L _ (stepB_some f none v)
def dgR (A : List Nat) : Nat → Nat → Nat
  | 0, _ => 0
  | k + 1, S => max (dgA A S ((bestO (dgA A S) (memsN S)).getD 0)) (dgR A k (dif S (2 ^ ((bestO (dgA A S) (memsN S)).getD 0))))
theorem bestG_step {f : Nat → Nat} {S k : Nat} (hS : S < 4294967296) (h : k < (memsN S).length) :
    (bestO f ((memsN S).take (k + 1))).getD (low S) = if f (memsN S)[k] < f ((bestO f ((memsN S).take k)).getD (low S)) then (memsN S)[k] else (bestO f ((memsN S).take k)).getD (low S) := by
  rw [List.take_succ_eq_append_getElem h, bestO_snoc]
  cases hb : bestO f ((memsN S).take k) with
  | none =>
    have hk : k = 0 := by
      apply Classical.byContradiction
      intro hk
      have : (memsN S).take k ≠ [] := by
        intro e
        have := congrArg List.length e
        rw [List.length_take, List.length_nil] at this
        omega
      obtain ⟨b, hb2⟩ := bestO_some f this
      rw [hb] at hb2; cases hb2
    subst hk
    have h0 : S ≠ 0 := by rintro rfl; rw [memsN_zero] at h; simp at h
    have e : (memsN S)[0] = low S := by
      have := memsN_cons h0 hS
      simp only [this, List.getElem_cons_zero]
    rw [e]
    simp [stepB]
  | some b =>
    simp only [stepB, Option.getD_some]
    by_cases hlt : f (memsN S)[k] < f b
    · rw [if_pos hlt, if_pos hlt]; rfl
    · rw [if_neg hlt, if_neg hlt]; rfl
theorem best_in {f : Nat → Nat} {S : Nat} (hS : S < 4294967296) (h0 : S ≠ 0) : ∃ b, bestO f (memsN S) = some b ∧ S.testBit b = true := by
  obtain ⟨b, hb⟩ := bestO_some f (L := memsN S) (by
    intro e; have := (memsN_mem hS).2 (low_bit h0 hS); rw [e] at this; cases this)
  exact ⟨b, hb, (memsN_mem hS).1 (bestO_mem hb)⟩
/-- One round: who is best goes. -/
theorem dgR_step {A : List Nat} {S b : Nat} (hS : S < 4294967296) (hb : bestO (dgA A S) (memsN S) = some b) (hbit : S.testBit b = true) :
    dgR A (memsN S).length S = max (dgA A S b) (dgR A (memsN (dif S (2 ^ b))).length (dif S (2 ^ b))) := by
  rw [← memsN_dif hS hbit]
  show max _ _ = _
  rw [hb]; rfl
noncomputable def degL (g : List (List Int)) : Int := if GOk g then (dgR (g.map maskL) g.length (2 ^ g.length - 1) : Nat) else -1
end Go.Proofs.YtalfbldkdlanoaaDoor
