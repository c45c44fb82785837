/- Plain facts: the members of a set of vertices, in order. -/
import Derived.Test.YtahibjikcijnfaaDoorMask
import Derived.Test.YtahibjikcijnfaaDoorDif
import Derived.Lib.TrailingZeros
namespace Go.Proofs.YtahibjikcijnfaaDoor
/-- The members, ascending. -/
def memsN (m : Nat) : List Nat := (List.range 32).filter fun i => m.testBit i
def mems (m : Nat) : List Int := (memsN m).map fun i : Nat => (i : Int)
theorem memsN_mem {m i : Nat} (h : m < 4294967296) : i ∈ memsN m ↔ m.testBit i = true := by
  unfold memsN
  rw [List.mem_filter, List.mem_range]
  constructor
  · exact fun h => h.2
  · intro hb
    refine ⟨?_, hb⟩
    apply Classical.byContradiction
    intro hn
    have h2 : m < 2 ^ i := Nat.lt_of_lt_of_le h (Nat.pow_le_pow_right (n := 2) (i := 32) (j := i) (by decide) (by omega))
    rw [Nat.testBit_lt_two_pow h2] at hb; cases hb
theorem mems_mem {m : Nat} {x : Int} (h : m < 4294967296) : x ∈ mems m ↔ ∃ i : Nat, x = i ∧ m.testBit i = true := by
  unfold mems
  rw [List.mem_map]
  constructor
  · rintro ⟨i, h1, rfl⟩; exact ⟨i, rfl, (memsN_mem h).1 h1⟩
  · rintro ⟨i, rfl, h1⟩; exact ⟨i, (memsN_mem h).2 h1, rfl⟩
theorem memsN_zero : memsN 0 = [] := by decide
theorem memsN_len (m : Nat) : (memsN m).length ≤ 32 := by
  have := List.length_filter_le (fun i => m.testBit i) (List.range 32)
  simpa [memsN] using this
theorem mems_len (m : Nat) : (mems m).length ≤ 32 := by unfold mems; rw [List.length_map]; exact memsN_len m
/-- The least member. -/
def low (m : Nat) : Nat := Go.Lib.ctz 32 m
theorem low_form {m : Nat} (h0 : m ≠ 0) (h : m < 4294967296) : ∃ q, m = 2 ^ low m * (2 * q + 1) ∧ low m < 32 := by
  obtain ⟨q, h1, h2⟩ := Go.Lib.ctzFrom_spec 32 m (by omega) h
  have e : low m = Go.Lib.ctzFrom 32 m := by simp [low, Go.Lib.ctz, h0]
  rw [e]
  exact ⟨q, h1, h2⟩
theorem low_lt {m : Nat} (h0 : m ≠ 0) (h : m < 4294967296) : low m < 32 := (low_form h0 h).elim fun _ h => h.2
theorem bit_form (k q i : Nat) : (2 ^ k * (2 * q + 1)).testBit i = (decide (i = k) || decide (k < i) && q.testBit (i - k - 1)) := by
  rw [Nat.mul_comm, Nat.testBit_mul_two_pow]
  rcases Nat.lt_trichotomy i k with h | h | h
  · simp [show ¬ k ≤ i by omega, show ¬ i = k by omega, show ¬ k < i by omega]
  · subst h; simp [Nat.testBit_zero]
  · obtain ⟨j, rfl⟩ : ∃ j, i = k + (j + 1) := ⟨i - k - 1, by omega⟩
    have e : k + (j + 1) - k = j + 1 := by omega
    rw [e, Nat.testBit_succ]
    have d : (2 * q + 1) / 2 = q := by omega
    simp [d, show k < k + (j + 1) by omega]
theorem low_bit {m : Nat} (h0 : m ≠ 0) (h : m < 4294967296) : m.testBit (low m) = true := by
  obtain ⟨q, h1, _⟩ := low_form h0 h
  have := bit_form (low m) q (low m)
  rw [← h1] at this
  rw [this]; simp
theorem low_least {m i : Nat} (h0 : m ≠ 0) (h : m < 4294967296) (hi : m.testBit i = true) : low m ≤ i := by
  obtain ⟨q, h1, _⟩ := low_form h0 h
  have := bit_form (low m) q i
  rw [← h1, hi] at this
  simp at this
  omega
/-- A set without its least member. -/
theorem drop_bit {m : Nat} (h0 : m ≠ 0) (h : m < 4294967296) (i : Nat) : (m &&& (m - 1)).testBit i = (m.testBit i && !decide (i = low m)) := by
  obtain ⟨q, h1, _⟩ := low_form h0 h
  have e : m - 1 = 2 ^ low m * (2 * q) + (2 ^ low m - 1) := by
    have hp : 0 < 2 ^ low m := Nat.two_pow_pos _
    have : m = 2 ^ low m * (2 * q) + 2 ^ low m := by
      conv => lhs; rw [h1]
      rw [Nat.mul_add, Nat.mul_one]
    omega
  rw [Nat.testBit_and, e, Nat.testBit_two_pow_mul_add (2 * q) (show 2 ^ low m - 1 < 2 ^ low m by have := Nat.two_pow_pos (low m); omega)]
  have hb := bit_form (low m) q i
  rw [← h1] at hb
  rw [hb]
  rcases Nat.lt_trichotomy i (low m) with h2 | h2 | h2
  · simp [show ¬ i = low m by omega, show ¬ low m < i by omega]
  · rw [if_neg (by omega)]; simp [h2, Nat.testBit_zero]
  · rw [if_neg (by omega)]
    obtain ⟨j, hj⟩ : ∃ j, i = low m + (j + 1) := ⟨i - low m - 1, by omega⟩
    have e2 : i - low m = j + 1 := by omega
    rw [e2, Nat.testBit_succ, show 2 * q / 2 = q by omega]
    simp [show ¬ i = low m by omega, show low m < i by omega]
/-- The least member, then the others. -/
theorem memsN_cons {m : Nat} (h0 : m ≠ 0) (h : m < 4294967296) : memsN m = low m :: memsN (m &&& (m - 1)) := by
  have hl := low_lt h0 h
  have hs : List.range 32 = List.range (low m) ++ (low m :: (List.range (31 - low m)).map fun i => low m + 1 + i) := by
    have e : 32 = low m + (31 - low m + 1) := by omega
    conv => lhs; rw [e]
    rw [List.range_add, List.range_succ_eq_map]
    simp [Function.comp_def]
    intro a _; omega
  unfold memsN
  rw [hs, List.filter_append, List.filter_append, List.filter_cons, List.filter_cons]
  have hf : ∀ (P : Nat → Bool), (∀ i, i < low m → P i = false) → (List.range (low m)).filter P = [] := by
    intro P hP
    rw [List.filter_eq_nil_iff]
    intro i hi
    rw [List.mem_range] at hi
    simp [hP i hi]
  rw [hf _ (fun i hi => by
    cases hb : m.testBit i with
    | false => rfl
    | true => have := low_least h0 h hb; omega)]
  rw [hf _ (fun i hi => by
    rw [drop_bit h0 h]
    cases hb : m.testBit i with
    | false => rfl
    | true => have := low_least h0 h hb; omega)]
  rw [low_bit h0 h, drop_bit h0 h]
  simp only [decide_true, Bool.not_true, Bool.and_false, List.nil_append, if_true, Bool.false_eq_true, if_false]
  congr 1
  rw [List.filter_map, List.filter_map]
  congr 1
  apply List.filter_congr
  intro i _
  simp only [Function.comp_apply]
  rw [drop_bit h0 h]
  simp [show ¬ low m + 1 + i = low m by omega]
theorem mems_cons {m : Nat} (h0 : m ≠ 0) (h : m < 4294967296) : mems m = (low m : Int) :: mems (m &&& (m - 1)) := by
  unfold mems; rw [memsN_cons h0 h]; rfl
theorem mems_zero : mems 0 = [] := by unfold mems; rw [memsN_zero]; rfl
theorem mems_lt16 {m : Nat} (h : m < 65536) : ∀ x ∈ mems m, 0 ≤ x ∧ x < 16 := by
  intro x hx
  obtain ⟨i, rfl, hb⟩ := (mems_mem (by omega)).1 hx
  have : i < 16 := by
    apply Classical.byContradiction
    intro hn
    have h2 : m < 2 ^ i := Nat.lt_of_lt_of_le (show m < 2 ^ 16 from h) (Nat.pow_le_pow_right (n := 2) (i := 16) (j := i) (by decide) (by omega))
    rw [Nat.testBit_lt_two_pow h2] at hb; cases hb
  omega
end Go.Proofs.YtahibjikcijnfaaDoor
