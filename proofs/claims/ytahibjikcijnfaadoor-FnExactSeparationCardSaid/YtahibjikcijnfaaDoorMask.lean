/- Plain facts on masks: sets of vertices, one bit for each. -/
import Derived.Test.YtahibjikcijnfaaDoorSet
namespace Go.Proofs.YtahibjikcijnfaaDoor
/-- The set of the vertices of a list. -/
def maskL (l : List Int) : Nat := l.foldl (fun m v => m ||| 2 ^ v.toNat) 0
theorem maskL_nil : maskL [] = 0 := rfl
theorem maskL_snoc (l : List Int) (v : Int) : maskL (l ++ [v]) = maskL l ||| 2 ^ v.toNat := by simp [maskL]
theorem maskL_take (l : List Int) (k : Nat) (h : k < l.length) : maskL (l.take (k + 1)) = maskL (l.take k) ||| 2 ^ l[k].toNat := by
  rw [List.take_succ_eq_append_getElem h, maskL_snoc]
theorem testBit_foldl (l : List Int) (m i : Nat) : (l.foldl (fun m v => m ||| 2 ^ v.toNat) m).testBit i = (m.testBit i || l.any fun v => decide (v.toNat = i)) := by
  induction l generalizing m with
  | nil => simp
  | cons v l ih =>
    simp only [List.foldl_cons, ih, List.any_cons, Nat.testBit_or, Nat.testBit_two_pow]
    rw [Bool.or_assoc]
theorem testBit_maskL (l : List Int) (i : Nat) (h : ∀ v ∈ l, 0 ≤ v) : (maskL l).testBit i = decide ((i : Int) ∈ l) := by
  rw [maskL, testBit_foldl, Nat.zero_testBit, Bool.false_or, Bool.eq_iff_iff, List.any_eq_true, decide_eq_true_iff]
  constructor
  · rintro ⟨v, hv, e⟩
    have := h v hv
    simp at e
    have : v = (i : Int) := by omega
    rw [← this]; exact hv
  · intro hi
    exact ⟨i, hi, by simp⟩
theorem mask_lt (m n : Nat) (h : ∀ i, m.testBit i = true → i < n) : m < 2 ^ n := by
  refine Nat.lt_pow_two_of_testBit m fun i hi => ?_
  cases hb : m.testBit i with
  | false => rfl
  | true => have := h i hb; omega
theorem maskL_lt (l : List Int) (n : Nat) (h : ∀ v ∈ l, 0 ≤ v ∧ v < n) : maskL l < 2 ^ n := by
  refine mask_lt _ _ fun i hi => ?_
  rw [testBit_maskL l i fun v hv => (h v hv).1] at hi
  have := (h i (of_decide_eq_true hi)).2
  omega
theorem mask_ext {a b : Nat} (h : ∀ i, a.testBit i = b.testBit i) : a = b := Nat.eq_of_testBit_eq h
end Go.Proofs.YtahibjikcijnfaaDoor
