/- Plain facts: least sets that meet all sets. -/
import Derived.Test.YtalfbldkdlanoaaDoorGone
namespace Go.Proofs.YtalfbldkdlanoaaDoor
open Go.RowKit
/-- S meets all sets. -/
def hits (B : List Nat) (S : Nat) : Bool := B.all fun t => decide (S &&& t ≠ 0)
def InR (a n T : Nat) : Prop := ∀ i, T.testBit i = true → a ≤ i ∧ i < n
def card (T : Nat) : Nat := (memsN T).length
theorem InR.lt {a n T : Nat} (h : InR a n T) : T < 2 ^ n := mask_lt _ n (fun i hi => (h i hi).2)
theorem card_zero {T : Nat} (h : T < 4294967296) : card T = 0 ↔ T = 0 := memsN_nil h
theorem InR.card_le {a n T : Nat} (h : InR a n T) (hn : n ≤ 32) (ha : a ≤ n) : card T ≤ n - a := by
  have hp : T < 4294967296 := Nat.lt_of_lt_of_le h.lt (Nat.le_trans (Nat.pow_le_pow_right (by decide) hn) (by decide))
  have h1 := nodup_le ((memsN T).map fun i : Nat => (i : Int) - (a : Int)) (n - a) (by
    rw [List.Nodup, List.pairwise_map]
    exact (memsN_nodup T).imp (fun hne e => hne (by omega))) (fun v hv => by
    obtain ⟨i, hi, rfl⟩ := List.mem_map.1 hv
    have := h i ((memsN_mem hp).1 hi)
    omega)
  rw [List.length_map] at h1
  exact h1
theorem pow_bit (v i : Nat) : (2 ^ v).testBit i = decide (i = v) := by
  rw [Nat.testBit_two_pow, decide_eq_decide]; exact eq_comm
/-- A set that is not empty: its least member, and the others. -/
theorem InR.split {a n T : Nat} (h : InR a n T) (h0 : T ≠ 0) (hn : n ≤ 32) : ∃ v T', a ≤ v ∧ v < n ∧ T = 2 ^ v ||| T' ∧ InR (v + 1) n T' ∧ card T = card T' + 1 := by
  have hp : T < 4294967296 := Nat.lt_of_lt_of_le h.lt (Nat.le_trans (Nat.pow_le_pow_right (by decide) hn) (by decide))
  have hb := low_bit h0 hp
  have hv := h _ hb
  refine ⟨low T, dif T (2 ^ low T), hv.1, hv.2, ?_, ?_, ?_⟩
  · apply Nat.eq_of_testBit_eq
    intro i
    rw [Nat.testBit_or, testBit_dif, pow_bit]
    by_cases hi : i = low T
    · subst hi; rw [hb]; simp
    · simp [hi]
  · intro i hi
    rw [testBit_dif, pow_bit, Bool.and_eq_true] at hi
    have h1 := low_least h0 hp hi.1
    have h2 : i ≠ low T := by simpa using hi.2
    exact ⟨by omega, (h i hi.1).2⟩
  · unfold card; rw [memsN_dif hp hb]
theorem InR.join {a n v T' : Nat} (h : InR (v + 1) n T') (ha : a ≤ v) (hv : v < n) (hn : n ≤ 32) : InR a n (2 ^ v ||| T') ∧ card (2 ^ v ||| T') = card T' + 1 := by
  have h1 : InR a n (2 ^ v ||| T') := by
    intro i hi
    rw [Nat.testBit_or, pow_bit, Bool.or_eq_true, decide_eq_true_iff] at hi
    rcases hi with rfl | hi
    · exact ⟨ha, hv⟩
    · have := h i hi; omega
  refine ⟨h1, ?_⟩
  have hp : 2 ^ v ||| T' < 4294967296 := Nat.lt_of_lt_of_le h1.lt (Nat.le_trans (Nat.pow_le_pow_right (by decide) hn) (by decide))
  have hb : (2 ^ v ||| T').testBit v = true := by rw [Nat.testBit_or, pow_bit]; simp
  have e : dif (2 ^ v ||| T') (2 ^ v) = T' := by
    apply Nat.eq_of_testBit_eq
    intro i
    rw [testBit_dif, Nat.testBit_or, pow_bit]
    by_cases hi : i = v
    · subst hi
      cases ht : T'.testBit i with
      | false => simp
      | true => have := h i ht; omega
    · simp [hi]
  have h2 := memsN_dif hp hb
  rw [e] at h2
  unfold card; omega
/-- No set of k vertices meets all. -/
def NoHit (B : List Nat) (n k : Nat) : Prop := ∀ T, InR 0 n T → card T = k → hits B T = false
/-- The size of a least set that meets all. -/
def LeastHit (B : List Nat) (n k : Nat) : Prop := (∃ T, InR 0 n T ∧ card T = k ∧ hits B T = true) ∧ ∀ j, j < k → NoHit B n j
theorem LeastHit.unique {B : List Nat} {n k k' : Nat} (h : LeastHit B n k) (h' : LeastHit B n k') : k = k' := by
  rcases Nat.lt_trichotomy k k' with h1 | h1 | h1
  · obtain ⟨T, h2, h3, h4⟩ := h.1
    rw [h'.2 k h1 T h2 h3] at h4; cases h4
  · exact h1
  · obtain ⟨T, h2, h3, h4⟩ := h'.1
    rw [h.2 k' h1 T h2 h3] at h4; cases h4
theorem card_full {n : Nat} (hn : n ≤ 32) : card (2 ^ n - 1) = n := memsN_full hn
theorem full_inR (n : Nat) : InR 0 n (2 ^ n - 1) := fun i hi => ⟨Nat.zero_le _, by rw [Nat.testBit_two_pow_sub_one] at hi; simpa using hi⟩
end Go.Proofs.YtalfbldkdlanoaaDoor
