/- What can be reached within a set: the program's. -/
import Derived.Test.YtdncmloajajiaaaDoorTouchI
namespace Go.Proofs.YtdncmloajajiaaaDoor
open Go.RowKit
/-- Within d steps of v, by members of a set alone, over sets. -/
def BallA (A : List Nat) (w v : Nat) : Nat → Nat → Prop
  | 0, u => u = v
  | d + 1, u => BallA A w v d u ∨ (w.testBit u = true ∧ ∃ x, BallA A w v d x ∧ (A.getD x 0).testBit u = true)
/-- v can be led to u. -/
def Leads (A : List Nat) (w v u : Nat) : Prop := ∃ d, BallA A w v d u
theorem le_of_bits {a b : Nat} (h : ∀ i, a.testBit i = true → b.testBit i = true) : a ≤ b := by
  have e : a &&& b = a := by
    apply Nat.eq_of_testBit_eq
    intro i
    rw [Nat.testBit_and]
    cases ha : a.testBit i
    · rfl
    · rw [h i ha]; rfl
  rw [← e]; exact Nat.and_le_right
theorem leads_closed {A : List Nat} {w v S : Nat} (hv : S.testBit v = true) (hc : ∀ x u, S.testBit x = true → w.testBit u = true → (A.getD x 0).testBit u = true → S.testBit u = true) {u : Nat} (h : Leads A w v u) : S.testBit u = true := by
  obtain ⟨d, hd⟩ := h
  induction d generalizing u with
  | zero => have e : u = v := hd
            rw [e]; exact hv
  | succ d ih =>
    rcases hd with h1 | ⟨h1, x, h2, h3⟩
    · exact ih h1
    · exact hc x u (ih h2) h1 h3
theorem Leads.step {A : List Nat} {w v x u : Nat} (h : Leads A w v x) (h1 : w.testBit u = true) (h2 : (A.getD x 0).testBit u = true) : Leads A w v u := by
  obtain ⟨d, hd⟩ := h
  exact ⟨d + 1, .inr ⟨h1, x, hd, h2⟩⟩
/-- Behind k members of S, one step more. -/
def StepTo (A : List Nat) (w S : Nat) (k N : Nat) : Prop := N < 65536 ∧ ∀ u, N.testBit u = true ↔ S.testBit u = true ∨ ∃ j, ∃ h : j < (mems S).length, j < k ∧ w.testBit u = true ∧ (A.getD ((mems S)[j]).toNat 0).testBit u = true
theorem StepTo.zero {A : List Nat} {w S : Nat} (h : S < 65536) : StepTo A w S 0 S := ⟨h, fun _ => ⟨.inl, fun h => h.elim id (fun ⟨j, _, h1, _⟩ => absurd h1 (Nat.not_lt_zero j))⟩⟩
theorem StepTo.succ {A : List Nat} {w S k N x : Nat} (h : StepTo A w S k N) (hk : k < (mems S).length) (hx : A.getD ((mems S)[k]).toNat 0 = x) (hw : w < 65536) : StepTo A w S (k + 1) (N ||| (x &&& w)) := by
  refine ⟨Nat.or_lt_two_pow (n := 16) h.1 (Nat.lt_of_le_of_lt Nat.and_le_right hw), fun u => ?_⟩
  rw [Nat.testBit_or, Bool.or_eq_true, h.2, Nat.testBit_and, Bool.and_eq_true]
  constructor
  · rintro ((h1 | ⟨j, hj, h2, h3⟩) | ⟨h1, h2⟩)
    · exact .inl h1
    · exact .inr ⟨j, hj, by omega, h3⟩
    · exact .inr ⟨k, hk, by omega, h2, by rw [hx]; exact h1⟩
  · rintro (h1 | ⟨j, hj, h2, h3, h4⟩)
    · exact .inl (.inl h1)
    · rcases Nat.lt_succ_iff_lt_or_eq.1 h2 with h5 | rfl
      · exact .inl (.inr ⟨j, hj, h5, h3, h4⟩)
      · exact .inr ⟨by rw [← hx]; exact h4, h3⟩
theorem mems_idx {S x : Nat} (h : S < 65536) (hb : S.testBit x = true) : ∃ j, ∃ hj : j < (mems S).length, (mems S)[j] = (x : Int) := by
  have : (x : Int) ∈ mems S := (mems_mem (by omega)).2 ⟨x, rfl, hb⟩
  obtain ⟨j, hj, e⟩ := List.mem_iff_getElem.1 this
  exact ⟨j, hj, e⟩
theorem mems_bit {S j : Nat} (h : S < 65536) (hj : j < (mems S).length) : S.testBit ((mems S)[j]).toNat = true := by
  obtain ⟨i, e, hb⟩ := (mems_mem (by omega)).1 (List.getElem_mem hj)
  rw [e, Int.toNat_natCast]; exact hb
end Go.Proofs.YtdncmloajajiaaaDoor
