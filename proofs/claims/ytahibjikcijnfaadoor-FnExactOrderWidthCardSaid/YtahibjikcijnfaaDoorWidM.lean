/- The width of an order, step by step: plain. -/
import Derived.Test.YtahibjikcijnfaaDoorElimM
import Derived.Test.YtahibjikcijnfaaDoorOrdM
namespace Go.Proofs.YtahibjikcijnfaaDoor
open Go.RowKit
/-- Who is left after so many steps. -/
def sTo (F : Nat) (l : List Int) : Nat → Nat
  | 0 => F
  | k + 1 => dif (sTo F l k) (2 ^ atN l k)
/-- The graph after so many steps. -/
def fTo (F : Nat) (A : List Nat) (l : List Int) : Nat → List Nat
  | 0 => A
  | k + 1 => elimA (fTo F A l k) (nearV (fTo F A l k) (sTo F l k) (atN l k))
def nrTo (F : Nat) (A : List Nat) (l : List Int) (k : Nat) : Nat := nearV (fTo F A l k) (sTo F l k) (atN l k)
/-- The later neighbours of those that are gone after so many steps. -/
def latTo (F : Nat) (A : List Nat) (l : List Int) : Nat → List Nat
  | 0 => List.replicate A.length 0
  | k + 1 => (latTo F A l k).set (atN l k) (nrTo F A l k)
def wmax (T : List Nat) : Nat → Nat
  | 0 => 0
  | k + 1 => max (wmax T k) (pcN 16 (T.getD k 0))
theorem fTo_ga {n F : Nat} {A : List Nat} (h : GA n A) (l : List Int) (k : Nat) : GA n (fTo F A l k) := by
  induction k with
  | zero => exact h
  | succ k ih => exact ih.elim (nearV_lt ih _ _)
theorem nrTo_lt {n F : Nat} {A : List Nat} (h : GA n A) (l : List Int) (k : Nat) : nrTo F A l k < 2 ^ n := nearV_lt (fTo_ga h l k) _ _
theorem sTo_lt {F n : Nat} (hF : F < 2 ^ n) (l : List Int) (k : Nat) : sTo F l k < 2 ^ n := by
  induction k with
  | zero => exact hF
  | succ k ih => exact Nat.lt_of_le_of_lt (dif_le _ _) ih
theorem latTo_len (F : Nat) (A : List Nat) (l : List Int) (k : Nat) : (latTo F A l k).length = A.length := by
  induction k with
  | zero => simp [latTo]
  | succ k ih => simp only [latTo, List.length_set]; exact ih
theorem latTo_lt {n F : Nat} {A : List Nat} (h : GA n A) (l : List Int) (k : Nat) : ∀ x ∈ latTo F A l k, x < 2 ^ n := by
  induction k with
  | zero =>
    intro x hx
    obtain rfl := (List.mem_replicate.1 hx).2
    exact Nat.two_pow_pos n
  | succ k ih =>
    intro x hx
    rcases List.mem_or_eq_of_mem_set hx with hx | rfl
    · exact ih x hx
    · exact nrTo_lt h l k
theorem sTo_gone {F : Nat} {l : List Int} {k j : Nat} (h : k < j) : (sTo F l j).testBit (atN l k) = false := by
  induction j with
  | zero => omega
  | succ j ih =>
    show (dif _ _).testBit _ = false
    rw [testBit_dif]
    rcases Nat.lt_or_eq_of_le (show k ≤ j by omega) with h | rfl
    · rw [ih h]; rfl
    · simp
theorem fTo_row {n F : Nat} {A : List Nat} (hA : GA n A) (l : List Int) {k j : Nat} (h : k ≤ j) : (fTo F A l j).getD (atN l k) 0 = (fTo F A l k).getD (atN l k) 0 := by
  induction j with
  | zero =>
    obtain rfl : k = 0 := by omega
    rfl
  | succ j ih =>
    rcases Nat.lt_or_eq_of_le h with h | rfl
    · rw [← ih (by omega)]
      have hga := fTo_ga (F := F) hA l j
      apply Nat.eq_of_testBit_eq
      intro i
      have h1 := elimA_bit (A := fTo F A l j) (N := nearV (fTo F A l j) (sTo F l j) (atN l j)) (by rw [hga.len]; exact hga.le) (by rw [hga.len]; exact nearV_lt hga _ _) (atN l k) i
      have hno : (nearV (fTo F A l j) (sTo F l j) (atN l j)).testBit (atN l k) = false := by
        unfold nearV
        rw [testBit_dif, Nat.testBit_and]
        rcases Nat.lt_or_eq_of_le (show k ≤ j by omega) with h2 | rfl
        · rw [sTo_gone h2]; simp
        · simp
      rw [hno] at h1
      show bt (elimA _ _) (atN l k) i = bt _ (atN l k) i
      rw [Bool.eq_iff_iff, h1]
      exact ⟨fun h => h.elim id (fun h => by cases h.2.1), .inl⟩
    · rfl
/-- The second pass finds the same. -/
theorem nrTo_late {n F : Nat} {A : List Nat} (hA : GA n A) (l : List Int) {k j : Nat} (h : k ≤ j) : nearV (fTo F A l j) (sTo F l k) (atN l k) = nrTo F A l k := by
  unfold nrTo nearV
  rw [fTo_row hA l h]
theorem pcN_16 (m : Nat) : pcN 16 m ≤ 16 := pcN_le 16 m
theorem wmax_le (T : List Nat) (k : Nat) : wmax T k ≤ 16 := by
  induction k with
  | zero => exact Nat.zero_le _
  | succ k ih => exact Nat.max_le.2 ⟨ih, pcN_16 _⟩
noncomputable def widL (g : List (List Int)) (l : List Int) : Int := if OrdP g l then (wmax (latTo (2 ^ g.length - 1) (g.map maskL) l l.length) g.length : Nat) else -1
end Go.Proofs.YtahibjikcijnfaaDoor
