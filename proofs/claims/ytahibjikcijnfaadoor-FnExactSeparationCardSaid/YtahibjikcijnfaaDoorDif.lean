/- a &^ b of two sets. -/
import Derived.Laws.BitsAllLaws
namespace Go.Proofs.YtahibjikcijnfaaDoor
def dif (a b : Nat) : Nat := a &&& (a ^^^ b)
theorem testBit_dif (a b i : Nat) : (dif a b).testBit i = (a.testBit i && !b.testBit i) := by
  unfold dif
  rw [Nat.testBit_and, Nat.testBit_xor]
  cases a.testBit i <;> cases b.testBit i <;> rfl
theorem dif_le (a b : Nat) : dif a b ≤ a := Nat.and_le_left
theorem bv_dif (x y : BitVec 32) : x &&& ~~~y = x &&& (x ^^^ y) := by
  apply BitVec.eq_of_getLsbD_eq
  intro i hi
  simp only [BitVec.getLsbD_and, BitVec.getLsbD_not, BitVec.getLsbD_xor, hi, decide_true, Bool.true_and]
  cases x.getLsbD i <;> cases y.getLsbD i <;> rfl
theorem u32_dif (a b : Nat) (ha : a < 4294967296) (hb : b < 4294967296) : bits .andNot .u32 (a : Int) (b : Int) = ((dif a b : Nat) : Int) := by
  show IntKind.u32.wrap ((BitVec.ofInt 32 (a : Int) &&& ~~~BitVec.ofInt 32 (b : Int)).toNat : Int) = _
  have e : (BitVec.ofInt 32 (a : Int) &&& ~~~BitVec.ofInt 32 (b : Int)).toNat = dif a b := by
    rw [bv_dif, BitVec.toNat_and, BitVec.toNat_xor]
    have e1 : (BitVec.ofInt 32 (a : Int)).toNat = a := by
      simp; omega
    have e2 : (BitVec.ofInt 32 (b : Int)).toNat = b := by
      simp; omega
    rw [e1, e2]; rfl
  rw [e]
  have := dif_le a b
  simp only [IntKind.wrap, IntKind.bits, IntKind.signed]
  simp
  omega
/-- A set is empty where no number is in it. -/
theorem eq_zero_iff (m : Nat) : m = 0 ↔ ∀ i, m.testBit i = false := by
  constructor
  · rintro rfl i; exact Nat.zero_testBit i
  · intro h; apply Nat.eq_of_testBit_eq; intro i; rw [h i, Nat.zero_testBit]
theorem dif_zero (a b : Nat) : dif a b = 0 ↔ ∀ i, a.testBit i = true → b.testBit i = true := by
  rw [eq_zero_iff]
  constructor
  · intro h i hi
    have := h i
    rw [testBit_dif, hi] at this
    simpa using this
  · intro h i
    rw [testBit_dif]
    cases ha : a.testBit i
    · rfl
    · simp [h i ha]
theorem and_zero (a b : Nat) : a &&& b = 0 ↔ ∀ i, ¬ (a.testBit i = true ∧ b.testBit i = true) := by
  rw [eq_zero_iff]
  constructor
  · intro h i ⟨h1, h2⟩
    have := h i
    rw [Nat.testBit_and, h1, h2] at this; cases this
  · intro h i
    rw [Nat.testBit_and]
    cases ha : a.testBit i
    · rfl
    · cases hb : b.testBit i
      · rfl
      · exact absurd ⟨ha, hb⟩ (h i)
end Go.Proofs.YtahibjikcijnfaaDoor
