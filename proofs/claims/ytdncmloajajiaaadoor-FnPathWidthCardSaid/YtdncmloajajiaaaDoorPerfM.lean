/- A perfect order: plain. -/
import Derived.Test.YtdncmloajajiaaaDoorGone
namespace Go.Proofs.YtdncmloajajiaaaDoor
open Go.RowKit
def simpB (A : List Nat) (S v : Nat) : Bool := missM A (A.getD v 0 &&& S) == 0
def firstP (A : List Nat) (S : Nat) : Option Nat := (memsN S).find? (simpB A S)
def perfR (A : List Nat) : Nat → Nat → Option (List Nat)
  | 0, _ => some []
  | k + 1, S => match firstP A S with
    | none => none
    | some v => (perfR A k (dif S (2 ^ v))).map (v :: ·)
theorem firstP_in {A : List Nat} {S v : Nat} (hS : S < 4294967296) (h : firstP A S = some v) : S.testBit v = true := (memsN_mem hS).1 (List.mem_of_find?_eq_some h)
theorem perf_none {A : List Nat} {S : Nat} (hS : S < 4294967296) (h0 : S ≠ 0) (h : firstP A S = none) : perfR A (memsN S).length S = none := by
  have hl : (memsN S).length ≠ 0 := fun e => h0 ((memsN_nil hS).1 e)
  obtain ⟨k, hk⟩ : ∃ k, (memsN S).length = k + 1 := ⟨(memsN S).length - 1, by omega⟩
  rw [hk]
  show (match firstP A S with | none => none | some v => (perfR A k (dif S (2 ^ v))).map (v :: ·)) = none
  rw [h]
theorem perf_step {A : List Nat} {S v : Nat} (hS : S < 4294967296) (h : firstP A S = some v) : perfR A (memsN S).length S = (perfR A (memsN (dif S (2 ^ v))).length (dif S (2 ^ v))).map (v :: ·) := by
  rw [← memsN_dif hS (firstP_in hS h)]
  show (match firstP A S with | none => none | some v => (perfR A _ (dif S (2 ^ v))).map (v :: ·)) = _
  rw [h]
theorem find_at {α : Type} {p : α → Bool} {L : List α} {k : Nat} (hk : k < L.length) (h : ∀ j (hj : j < k), p (L[j]'(by omega)) = false) (hp : p L[k] = true) : L.find? p = some L[k] := by
  have e : L = L.take k ++ L[k] :: L.drop (k + 1) := by rw [← List.drop_eq_getElem_cons hk, List.take_append_drop]
  have h1 : (L.take k).find? p = none := by
    rw [List.find?_eq_none]
    intro x hx
    obtain ⟨j, hj, rfl⟩ := List.mem_iff_getElem.1 hx
    rw [List.length_take] at hj
    rw [List.getElem_take, h j (by omega)]
    simp
  rw [show L.find? p = (L.take k ++ L[k] :: L.drop (k + 1)).find? p from congrArg (List.find? p) e, List.find?_append, h1, List.find?_cons, hp]
  rfl
theorem find_no {α : Type} {p : α → Bool} {L : List α} (h : ∀ j (hj : j < L.length), p L[j] = false) : L.find? p = none := by
  rw [List.find?_eq_none]
  intro x hx
  obtain ⟨j, hj, rfl⟩ := List.mem_iff_getElem.1 hx
  rw [h j hj]; simp
/-- Over all numbers below n, who is left and simplicial first. -/
theorem firstP_range {A : List Nat} {S n : Nat} (h : S < 2 ^ n) (hn : n ≤ 32) : firstP A S = (List.range n).find? (fun v => S.testBit v && simpB A S v) := by
  unfold firstP
  rw [memsN_left h hn]
  unfold leftN
  rw [List.find?_filter]
  congr 1
  funext a
  cases S.testBit a <;> simp
noncomputable def perfL (g : List (List Int)) : Option (List Int) := if GOk g then (perfR (g.map maskL) g.length (2 ^ g.length - 1)).map (fun l => l.map fun i : Nat => (i : Int)) else none
theorem perfR_len {A : List Nat} {k S : Nat} {l : List Nat} (h : perfR A k S = some l) : l.length = k := by
  induction k generalizing S l with
  | zero => simp [perfR] at h; subst h; rfl
  | succ k ih =>
    unfold perfR at h
    cases hf : firstP A S with
    | none => rw [hf] at h; cases h
    | some v =>
      rw [hf] at h
      simp only at h
      rw [Option.map_eq_some_iff] at h
      obtain ⟨l', h1, rfl⟩ := h
      simp [ih h1]
end Go.Proofs.YtdncmloajajiaaaDoor
