/- Plain facts on sets of vertices and on graphs: no program is in sight. · Plain facts on masks: sets of vertices, one bit for each. · Plain facts on loops in a graph. · a &^ b of two sets. · Plain facts: the members of a set of vertices, in order. · Plain facts: where a run of places is whole. · The program's sets of vertices: one bit for each. · math/bits.OnesCount32. -/
import Derived.WalkKit
import Derived.Laws.BitsAllLaws
import Derived.Lib.TrailingZeros
import Derived.Test.YtccohcdgcpcbjaaDoorMem
import Derived.Lib.BitFns
import Derived.Deep.Light
namespace Go.Proofs.YtccohcdgcpcbjaaDoor
open Go.RowKit
section
section
/-- s is strictly increasing, from 0 to n - 1. -/
def Inc (n : Int) (s : List Int) : Prop := (∀ x ∈ s, 0 ≤ x ∧ x < n) ∧ s.Pairwise (· < ·)
instance (n : Int) (s : List Int) : Decidable (Inc n s) := by unfold Inc; infer_instance
theorem inc_nil (n : Int) : Inc n [] := ⟨fun x h => (by cases h), .nil⟩
theorem inc_take {n : Int} {s : List Int} (h : Inc n s) (k : Nat) : Inc n (s.take k) := ⟨fun x hx => h.1 x (List.mem_of_mem_take hx), h.2.sublist (List.take_sublist k s)⟩
theorem inc_take_succ (n : Int) (s : List Int) (k : Nat) (hk : k < s.length) (h : Inc n (s.take k)) (h1 : 0 ≤ s[k] ∧ s[k] < n) (h2 : ∀ h0 : 0 < k, s[k - 1] < s[k]) : Inc n (s.take (k + 1)) := by
  rw [List.take_succ_eq_append_getElem hk]
  refine ⟨fun x hx => ?_, ?_⟩
  · rcases List.mem_append.1 hx with h3 | h3
    · exact h.1 x h3
    · simp at h3; subst h3; exact h1
  · rw [List.pairwise_append]
    refine ⟨h.2, by simp, fun x hx y hy => ?_⟩
    simp at hy; subst hy
    obtain ⟨j, hj, rfl⟩ := List.mem_iff_getElem.1 hx
    have hj' : j < k := by simp at hj; omega
    rw [List.getElem_take]
    have hl := h2 (by omega)
    by_cases e : j = k - 1
    · subst e; exact hl
    · have := (List.pairwise_iff_getElem.1 h.2) j (k - 1) (by simp; omega) (by simp; omega) (by omega)
      rw [List.getElem_take, List.getElem_take] at this
      omega
theorem inc_get {n : Int} {s : List Int} (h : Inc n s) (k : Nat) (hk : k < s.length) : 0 ≤ s[k] ∧ s[k] < n := h.1 _ (List.getElem_mem hk)
theorem inc_lt {n : Int} {s : List Int} (h : Inc n s) (i k : Nat) (hk : k < s.length) (hi : i < k) : s[i] < s[k] := (List.pairwise_iff_getElem.1 h.2) i k (by omega) hk hi
theorem inc_ge {n : Int} {s : List Int} (h : Inc n s) (k : Nat) (hk : k < s.length) : (k : Int) ≤ s[k] := by
  induction k with
  | zero => exact (inc_get h 0 hk).1
  | succ k ih =>
    have := ih (by omega)
    have := inc_lt h k (k + 1) hk (by omega)
    omega
theorem inc_length {n : Int} {s : List Int} (h : Inc n s) (hn : 0 ≤ n) : (s.length : Int) ≤ n := by
  rcases Nat.eq_zero_or_pos s.length with h0 | h0
  · omega
  · have := inc_ge h (s.length - 1) (by omega)
    have := (inc_get h (s.length - 1) (by omega)).2
    omega
/-- The row of a vertex. -/
def row (g : List (List Int)) (v : Int) : List Int := g.getD v.toNat []
/-- A valid graph. -/
structure GOk (g : List (List Int)) : Prop where
  pos : 1 ≤ g.length
  le : g.length ≤ 16
  inc : ∀ v : Nat, v < g.length → Inc g.length (row g v)
  irr : ∀ v : Nat, v < g.length → (v : Int) ∉ row g v
  sym : ∀ v : Nat, v < g.length → ∀ u ∈ row g v, (v : Int) ∈ row g u
noncomputable instance (g : List (List Int)) : Decidable (GOk g) := Classical.propDecidable _
theorem row_nat (g : List (List Int)) (v : Nat) (h : v < g.length) : row g v = g[v] := by simp [row, List.getD, List.getElem?_eq_getElem h]
end
section
/-- The set of the vertices of a list. -/
def maskL (l : List Int) : Nat := l.foldl (fun m v => m ||| 2 ^ v.toNat) 0
theorem maskL_nil : maskL [] = 0 := rfl
theorem maskL_snoc (l : List Int) (v : Int) : maskL (l ++ [v]) = maskL l ||| 2 ^ v.toNat := by simp [maskL]
theorem maskL_take (l : List Int) (k : Nat) (h : k < l.length) : maskL (l.take (k + 1)) = maskL (l.take k) ||| 2 ^ l[k].toNat := by
  rw [List.take_succ_eq_append_getElem h, maskL_snoc]
theorem testBit_foldl (l : List Int) (m i : Nat) : (l.foldl (fun m v => m ||| 2 ^ v.toNat) m).testBit i = (m.testBit i || l.any fun v => decide (v.toNat = i)) := by
  induction l generalizing m with
  | nil => simp
  | cons v l ih =>
    simp only [List.foldl_cons, ih, List.any_cons, Nat.testBit_or, Nat.testBit_two_pow]
    rw [Bool.or_assoc]
theorem testBit_maskL (l : List Int) (i : Nat) (h : ∀ v ∈ l, 0 ≤ v) : (maskL l).testBit i = decide ((i : Int) ∈ l) := by
  rw [maskL, testBit_foldl, Nat.zero_testBit, Bool.false_or, Bool.eq_iff_iff, List.any_eq_true, decide_eq_true_iff]
  constructor
  · rintro ⟨v, hv, e⟩
    have := h v hv
    simp at e
    have : v = (i : Int) := by omega
    rw [← this]; exact hv
  · intro hi
    exact ⟨i, hi, by simp⟩
theorem mask_lt (m n : Nat) (h : ∀ i, m.testBit i = true → i < n) : m < 2 ^ n := by
  refine Nat.lt_pow_two_of_testBit m fun i hi => ?_
  cases hb : m.testBit i with
  | false => rfl
  | true => have := h i hb; omega
theorem maskL_lt (l : List Int) (n : Nat) (h : ∀ v ∈ l, 0 ≤ v ∧ v < n) : maskL l < 2 ^ n := by
  refine mask_lt _ _ fun i hi => ?_
  rw [testBit_maskL l i fun v hv => (h v hv).1] at hi
  have := (h i (of_decide_eq_true hi)).2
  omega
theorem mask_ext {a b : Nat} (h : ∀ i, a.testBit i = b.testBit i) : a = b := Nat.eq_of_testBit_eq h
end
section
theorem gok_range {g : List (List Int)} (h : GOk g) {u v : Int} (h0 : 0 ≤ u) (hu : u < g.length) (hv : v ∈ row g u) : 0 ≤ v ∧ v < g.length := by
  obtain ⟨m, rfl⟩ := Int.eq_ofNat_of_zero_le h0
  exact (h.inc m (by omega)).1 v hv
theorem gok_sym {g : List (List Int)} (h : GOk g) {u v : Int} (h0 : 0 ≤ u) (hu : u < g.length) (hv0 : 0 ≤ v) (hv1 : v < g.length) : v ∈ row g u ↔ u ∈ row g v := by
  obtain ⟨m, rfl⟩ := Int.eq_ofNat_of_zero_le h0
  obtain ⟨n, rfl⟩ := Int.eq_ofNat_of_zero_le hv0
  exact ⟨fun hh => h.sym m (by omega) n hh, fun hh => h.sym n (by omega) m hh⟩
/-- The first k of a list are distinct vertices, each a neighbour of the one before. -/
def TrailTo (g : List (List Int)) (l : List Int) (k : Nat) : Prop :=
  ∀ i, i < k → (0 ≤ l.getD i 0 ∧ l.getD i 0 < g.length) ∧ l.getD i 0 ∉ l.take i ∧ (0 < i → l.getD i 0 ∈ row g (l.getD (i - 1) 0))
noncomputable instance (g : List (List Int)) (l : List Int) (k : Nat) : Decidable (TrailTo g l k) := Classical.propDecidable _
theorem trail_zero (g : List (List Int)) (l : List Int) : TrailTo g l 0 := fun i hi => absurd hi (Nat.not_lt_zero i)
theorem trail_succ {g : List (List Int)} {l : List Int} {k : Nat} (h : TrailTo g l k) (h1 : 0 ≤ l.getD k 0 ∧ l.getD k 0 < g.length) (h2 : l.getD k 0 ∉ l.take k) (h3 : 0 < k → l.getD k 0 ∈ row g (l.getD (k - 1) 0)) : TrailTo g l (k + 1) := by
  intro i hi
  rcases Nat.lt_succ_iff_lt_or_eq.1 hi with h4 | rfl
  · exact h i h4
  · exact ⟨h1, h2, h3⟩
theorem getD_eq (l : List Int) (k : Nat) (h : k < l.length) : l.getD k 0 = l[k] := by simp [List.getD, List.getElem?_eq_getElem h]
theorem trail_range {g : List (List Int)} {l : List Int} {k : Nat} (h : TrailTo g l k) (hk : k ≤ l.length) : ∀ v ∈ l.take k, 0 ≤ v ∧ v < g.length := by
  intro v hv
  obtain ⟨i, hi, rfl⟩ := List.mem_iff_getElem.1 hv
  have hi' : i < k := by simp at hi; omega
  have := (h i hi').1
  rw [getD_eq l i (by omega)] at this
  rw [List.getElem_take]; exact this
theorem trail_nodup {g : List (List Int)} {l : List Int} {k : Nat} (h : TrailTo g l k) (hk : k ≤ l.length) : (l.take k).Nodup := by
  rw [List.nodup_iff_pairwise_ne, List.pairwise_iff_getElem]
  intro i j hi hj hij
  have hj' : j < k := by simp at hj; omega
  have := (h j hj').2.1
  rw [getD_eq l j (by omega)] at this
  rw [List.getElem_take, List.getElem_take]
  intro e
  apply this
  rw [← e]
  exact List.mem_take_iff_getElem.2 ⟨i, by omega, rfl⟩
/-- Distinct numbers from 0 to n - 1 are at most n. -/
theorem nodup_le (l : List Int) (n : Nat) (hd : l.Nodup) (h : ∀ v ∈ l, 0 ≤ v ∧ v < n) : l.length ≤ n := by
  have hs : l ⊆ (List.range n).map (fun i : Nat => (i : Int)) := by
    intro v hv
    obtain ⟨m, rfl⟩ := Int.eq_ofNat_of_zero_le (h v hv).1
    exact List.mem_map.2 ⟨m, List.mem_range.2 (by have := (h _ hv).2; omega), rfl⟩
  have := hd.length_le_of_subset hs
  simpa using this
structure LoopP (g : List (List Int)) (l : List Int) : Prop where
  ok : GOk g
  long : 3 ≤ l.length
  trail : TrailTo g l l.length
  back : l.getD (l.length - 1) 0 ∈ row g (l.getD 0 0)
noncomputable instance (g : List (List Int)) (l : List Int) : Decidable (LoopP g l) := Classical.propDecidable _
theorem LoopP.le {g : List (List Int)} {l : List Int} (h : LoopP g l) : l.length ≤ g.length := by
  have h1 := trail_nodup h.trail (Nat.le_refl _)
  have h2 := trail_range h.trail (Nat.le_refl _)
  rw [List.take_length] at h1 h2
  exact nodup_le l g.length h1 h2
end
section
def dif (a b : Nat) : Nat := a &&& (a ^^^ b)
theorem testBit_dif (a b i : Nat) : (dif a b).testBit i = (a.testBit i && !b.testBit i) := by
  unfold dif
  rw [Nat.testBit_and, Nat.testBit_xor]
  cases a.testBit i <;> cases b.testBit i <;> rfl
theorem dif_le (a b : Nat) : dif a b ≤ a := Nat.and_le_left
theorem bv_dif (x y : BitVec 32) : x &&& ~~~y = x &&& (x ^^^ y) := by
  apply BitVec.eq_of_getLsbD_eq
  intro i hi
  simp only [BitVec.getLsbD_and, BitVec.getLsbD_not, BitVec.getLsbD_xor, hi, decide_true, Bool.true_and]
  cases x.getLsbD i <;> cases y.getLsbD i <;> rfl
theorem u32_dif (a b : Nat) (ha : a < 4294967296) (hb : b < 4294967296) : bits .andNot .u32 (a : Int) (b : Int) = ((dif a b : Nat) : Int) := by
  show IntKind.u32.wrap ((BitVec.ofInt 32 (a : Int) &&& ~~~BitVec.ofInt 32 (b : Int)).toNat : Int) = _
  have e : (BitVec.ofInt 32 (a : Int) &&& ~~~BitVec.ofInt 32 (b : Int)).toNat = dif a b := by
    rw [bv_dif, BitVec.toNat_and, BitVec.toNat_xor]
    have e1 : (BitVec.ofInt 32 (a : Int)).toNat = a := by
      simp; omega
    have e2 : (BitVec.ofInt 32 (b : Int)).toNat = b := by
      simp; omega
    rw [e1, e2]; rfl
  rw [e]
  have := dif_le a b
  simp only [IntKind.wrap, IntKind.bits, IntKind.signed]
  simp
  omega
/-- A set is empty where no number is in it. -/
theorem eq_zero_iff (m : Nat) : m = 0 ↔ ∀ i, m.testBit i = false := by
  constructor
  · rintro rfl i; exact Nat.zero_testBit i
  · intro h; apply Nat.eq_of_testBit_eq; intro i; rw [h i, Nat.zero_testBit]
theorem dif_zero (a b : Nat) : dif a b = 0 ↔ ∀ i, a.testBit i = true → b.testBit i = true := by
  rw [eq_zero_iff]
  constructor
  · intro h i hi
    have := h i
    rw [testBit_dif, hi] at this
    simpa using this
  · intro h i
    rw [testBit_dif]
    cases ha : a.testBit i
    · rfl
    · simp [h i ha]
theorem and_zero (a b : Nat) : a &&& b = 0 ↔ ∀ i, ¬ (a.testBit i = true ∧ b.testBit i = true) := by
  rw [eq_zero_iff]
  constructor
  · intro h i ⟨h1, h2⟩
    have := h i
    rw [Nat.testBit_and, h1, h2] at this; cases this
  · intro h i
    rw [Nat.testBit_and]
    cases ha : a.testBit i
    · rfl
    · cases hb : b.testBit i
      · rfl
      · exact absurd ⟨ha, hb⟩ (h i)
end
section
/-- The members, ascending. -/
def memsN (m : Nat) : List Nat := (List.range 32).filter fun i => m.testBit i
def mems (m : Nat) : List Int := (memsN m).map fun i : Nat => (i : Int)
theorem memsN_mem {m i : Nat} (h : m < 4294967296) : i ∈ memsN m ↔ m.testBit i = true := by
  unfold memsN
  rw [List.mem_filter, List.mem_range]
  constructor
  · exact fun h => h.2
  · intro hb
    refine ⟨?_, hb⟩
    apply Classical.byContradiction
    intro hn
    have h2 : m < 2 ^ i := Nat.lt_of_lt_of_le h (Nat.pow_le_pow_right (n := 2) (i := 32) (j := i) (by decide) (by omega))
    rw [Nat.testBit_lt_two_pow h2] at hb; cases hb
theorem mems_mem {m : Nat} {x : Int} (h : m < 4294967296) : x ∈ mems m ↔ ∃ i : Nat, x = i ∧ m.testBit i = true := by
  unfold mems
  rw [List.mem_map]
  constructor
  · rintro ⟨i, h1, rfl⟩; exact ⟨i, rfl, (memsN_mem h).1 h1⟩
  · rintro ⟨i, rfl, h1⟩; exact ⟨i, (memsN_mem h).2 h1, rfl⟩
theorem memsN_zero : memsN 0 = [] := by decide
theorem memsN_len (m : Nat) : (memsN m).length ≤ 32 := by
  have := List.length_filter_le (fun i => m.testBit i) (List.range 32)
  simpa [memsN] using this
theorem mems_len (m : Nat) : (mems m).length ≤ 32 := by unfold mems; rw [List.length_map]; exact memsN_len m
/-- The least member. -/
def low (m : Nat) : Nat := Go.Lib.ctz 32 m
theorem low_form {m : Nat} (h0 : m ≠ 0) (h : m < 4294967296) : ∃ q, m = 2 ^ low m * (2 * q + 1) ∧ low m < 32 := by
  obtain ⟨q, h1, h2⟩ := Go.Lib.ctzFrom_spec 32 m (by omega) h
  have e : low m = Go.Lib.ctzFrom 32 m := by simp [low, Go.Lib.ctz, h0]
  rw [e]
  exact ⟨q, h1, h2⟩
theorem low_lt {m : Nat} (h0 : m ≠ 0) (h : m < 4294967296) : low m < 32 := (low_form h0 h).elim fun _ h => h.2
theorem bit_form (k q i : Nat) : (2 ^ k * (2 * q + 1)).testBit i = (decide (i = k) || decide (k < i) && q.testBit (i - k - 1)) := by
  rw [Nat.mul_comm, Nat.testBit_mul_two_pow]
  rcases Nat.lt_trichotomy i k with h | h | h
  · simp [show ¬ k ≤ i by omega, show ¬ i = k by omega, show ¬ k < i by omega]
  · subst h; simp [Nat.testBit_zero]
  · obtain ⟨j, rfl⟩ : ∃ j, i = k + (j + 1) := ⟨i - k - 1, by omega⟩
    have e : k + (j + 1) - k = j + 1 := by omega
    rw [e, Nat.testBit_succ]
    have d : (2 * q + 1) / 2 = q := by omega
    simp [d, show k < k + (j + 1) by omega]
theorem low_bit {m : Nat} (h0 : m ≠ 0) (h : m < 4294967296) : m.testBit (low m) = true := by
  obtain ⟨q, h1, _⟩ := low_form h0 h
  have := bit_form (low m) q (low m)
  rw [← h1] at this
  rw [this]; simp
theorem low_least {m i : Nat} (h0 : m ≠ 0) (h : m < 4294967296) (hi : m.testBit i = true) : low m ≤ i := by
  obtain ⟨q, h1, _⟩ := low_form h0 h
  have := bit_form (low m) q i
  rw [← h1, hi] at this
  simp at this
  omega
/-- A set without its least member. -/
theorem drop_bit {m : Nat} (h0 : m ≠ 0) (h : m < 4294967296) (i : Nat) : (m &&& (m - 1)).testBit i = (m.testBit i && !decide (i = low m)) := by
  obtain ⟨q, h1, _⟩ := low_form h0 h
  have e : m - 1 = 2 ^ low m * (2 * q) + (2 ^ low m - 1) := by
    have hp : 0 < 2 ^ low m := Nat.two_pow_pos _
    have : m = 2 ^ low m * (2 * q) + 2 ^ low m := by
      conv => lhs; rw [h1]
      rw [Nat.mul_add, Nat.mul_one]
    omega
  rw [Nat.testBit_and, e, Nat.testBit_two_pow_mul_add (2 * q) (show 2 ^ low m - 1 < 2 ^ low m by have := Nat.two_pow_pos (low m); omega)]
  have hb := bit_form (low m) q i
  rw [← h1] at hb
  rw [hb]
  rcases Nat.lt_trichotomy i (low m) with h2 | h2 | h2
  · simp [show ¬ i = low m by omega, show ¬ low m < i by omega]
  · rw [if_neg (by omega)]; simp [h2, Nat.testBit_zero]
  · rw [if_neg (by omega)]
    obtain ⟨j, hj⟩ : ∃ j, i = low m + (j + 1) := ⟨i - low m - 1, by omega⟩
    have e2 : i - low m = j + 1 := by omega
    rw [e2, Nat.testBit_succ, show 2 * q / 2 = q by omega]
    simp [show ¬ i = low m by omega, show low m < i by omega]
/-- The least member, then the others. -/
theorem memsN_cons {m : Nat} (h0 : m ≠ 0) (h : m < 4294967296) : memsN m = low m :: memsN (m &&& (m - 1)) := by
  have hl := low_lt h0 h
  have hs : List.range 32 = List.range (low m) ++ (low m :: (List.range (31 - low m)).map fun i => low m + 1 + i) := by
    have e : 32 = low m + (31 - low m + 1) := by omega
    conv => lhs; rw [e]
    rw [List.range_add, List.range_succ_eq_map]
    simp [Function.comp_def]
    intro a _; omega
  unfold memsN
  rw [hs, List.filter_append, List.filter_append, List.filter_cons, List.filter_cons]
  have hf : ∀ (P : Nat → Bool), (∀ i, i < low m → P i = false) → (List.range (low m)).filter P = [] := by
    intro P hP
    rw [List.filter_eq_nil_iff]
    intro i hi
    rw [List.mem_range] at hi
    simp [hP i hi]
  rw [hf _ (fun i hi => by
    cases hb : m.testBit i with
    | false => rfl
    | true => have := low_least h0 h hb; omega)]
  rw [hf _ (fun i hi => by
    rw [drop_bit h0 h]
    cases hb : m.testBit i with
    | false => rfl
    | true => have := low_least h0 h hb; omega)]
  rw [low_bit h0 h, drop_bit h0 h]
  simp only [decide_true, Bool.not_true, Bool.and_false, List.nil_append, if_true, Bool.false_eq_true, if_false]
  congr 1
  rw [List.filter_map, List.filter_map]
  congr 1
  apply List.filter_congr
  intro i _
  simp only [Function.comp_apply]
  rw [drop_bit h0 h]
  simp [show ¬ low m + 1 + i = low m by omega]
theorem mems_cons {m : Nat} (h0 : m ≠ 0) (h : m < 4294967296) : mems m = (low m : Int) :: mems (m &&& (m - 1)) := by
  unfold mems; rw [memsN_cons h0 h]; rfl
theorem mems_zero : mems 0 = [] := by unfold mems; rw [memsN_zero]; rfl
theorem mems_lt16 {m : Nat} (h : m < 65536) : ∀ x ∈ mems m, 0 ≤ x ∧ x < 16 := by
  intro x hx
  obtain ⟨i, rfl, hb⟩ := (mems_mem (by omega)).1 hx
  have : i < 16 := by
    apply Classical.byContradiction
    intro hn
    have h2 : m < 2 ^ i := Nat.lt_of_lt_of_le (show m < 2 ^ 16 from h) (Nat.pow_le_pow_right (n := 2) (i := 16) (j := i) (by decide) (by omega))
    rw [Nat.testBit_lt_two_pow h2] at hb; cases hb
  omega
end
section
/-- How many places under n have P. -/
def cntR (n : Nat) (P : Nat → Bool) : Nat := ((List.range n).filter P).length
theorem cntR_succ (n : Nat) (P : Nat → Bool) : cntR (n + 1) P = cntR n P + if P n then 1 else 0 := by
  unfold cntR
  rw [List.range_succ, List.filter_append, List.length_append]
  cases h : P n <;> simp [h]
theorem cntR_le (n : Nat) (P : Nat → Bool) : cntR n P ≤ n := by have := List.length_filter_le P (List.range n); simpa [cntR] using this
/-- All that have P lie between f and l: they are l - f + 1 just where all between have P. -/
theorem cntR_run {n f l : Nat} {P : Nat → Bool} (hl : l < n) (hfl : f ≤ l) (hin : ∀ i, i < n → P i = true → f ≤ i ∧ i ≤ l) :
    cntR n P = l - f + 1 ↔ ∀ i, f ≤ i → i ≤ l → P i = true := by
  have hd : ((List.range n).filter P).Nodup := List.nodup_range.filter _
  constructor
  · intro h i h1 h2
    apply Classical.byContradiction
    intro hn
    have hs : (List.range n).filter P ⊆ (List.range' f (l - f + 1)).erase i := by
      intro x hx
      rw [List.mem_filter, List.mem_range] at hx
      have hxi : x ≠ i := by rintro rfl; exact hn hx.2
      rw [List.mem_erase_of_ne hxi, List.mem_range'_1]
      have := hin x hx.1 hx.2
      omega
    have h3 := hd.length_le_of_subset hs
    have h4 : i ∈ List.range' f (l - f + 1) := by rw [List.mem_range'_1]; omega
    rw [List.length_erase_of_mem h4, List.length_range'] at h3
    unfold cntR at h
    omega
  · intro h
    have hs : List.range' f (l - f + 1) ⊆ (List.range n).filter P := by
      intro x hx
      rw [List.mem_range'_1] at hx
      rw [List.mem_filter, List.mem_range]
      exact ⟨by omega, h x hx.1 (by omega)⟩
    have h1 := (List.nodup_range' (s := f) (n := l - f + 1)).length_le_of_subset hs
    have hs2 : (List.range n).filter P ⊆ List.range' f (l - f + 1) := by
      intro x hx
      rw [List.mem_filter, List.mem_range] at hx
      rw [List.mem_range'_1]
      have := hin x hx.1 hx.2
      omega
    have h2 := hd.length_le_of_subset hs2
    rw [List.length_range'] at h1 h2
    unfold cntR
    omega
end
end
section
section
theorem pow_lt32 (v : Nat) (hv : v < 32) : 2 ^ v < 4294967296 := Nat.pow_lt_pow_right (by decide) (show v < 32 from hv)
theorem one_any (v : Nat) (w : World) (hv : v < 32) : Calls Tryd.prog 84 #[.int .i64 v] w fun e w' => e = .returned (.int .u32 ((2 ^ v : Nat) : Int)) ∧ w = w' := by
  go_enter Tryd.func84, Tryd.ntmps84
  go_wp2
  go_ret
  refine ⟨ret_int ?_, rfl⟩
  have h := pow_lt32 v hv
  have e : (2 : Int) ^ v = ((2 ^ v : Nat) : Int) := by simp
  rw [e]; clear e; generalize (2 ^ v : Nat) = p at h ⊢; omega
end
section
/-- How many of the n lowest bits are set. -/
def pcN : Nat → Nat → Nat
  | 0, _ => 0
  | n + 1, m => m % 2 + pcN n (m / 2)

theorem pcN_add : ∀ (a b m : Nat), pcN (a + b) m = pcN a m + pcN b (m / 2 ^ a)
  | 0, b, m => by simp [pcN]
  | a + 1, b, m => by
    rw [show a + 1 + b = (a + b) + 1 by omega, pcN, pcN_add a b (m / 2), pcN, Nat.div_div_eq_div_mul, Nat.pow_succ, Nat.mul_comm 2, Nat.add_assoc]
theorem pcN_mod : ∀ (n m : Nat), pcN n m = pcN n (m % 2 ^ n)
  | 0, m => rfl
  | n + 1, m => by
    rw [pcN, pcN, pcN_mod n (m / 2), pcN_mod n (m % 2 ^ (n + 1) / 2)]
    congr 1
    · rw [Nat.pow_succ, Nat.mul_comm, Nat.mod_mul_right_mod]
    · rw [Nat.pow_succ, Nat.mul_comm, Nat.mod_mul_right_div_self, Nat.mod_mod]
theorem pcN_le : ∀ (n m : Nat), pcN n m ≤ n
  | 0, m => Nat.le_refl _
  | n + 1, m => by have := pcN_le n (m / 2); rw [pcN]; omega
theorem pcN_filter : ∀ (n m : Nat), pcN n m = ((List.range n).filter fun i => m.testBit i).length
  | 0, m => rfl
  | n + 1, m => by
    rw [pcN, pcN_filter n (m / 2), List.range_succ_eq_map, List.filter_cons, List.filter_map]
    have e : ((fun i => m.testBit i) ∘ Nat.succ) = fun i => (m / 2).testBit i := by
      funext i; simp [Nat.testBit_succ]
    rw [e]
    have h0 : m.testBit 0 = decide (m % 2 = 1) := by simp
    by_cases h : m % 2 = 1
    · rw [if_pos (by rw [h0]; simpa using h)]; simp; omega
    · rw [if_neg (by rw [h0]; simpa using h)]; simp; omega
theorem pop8_pcF : ∀ n : Fin 256, Lib.pop8 (n.val : Int) = (pcN 8 n.val : Int) := by decide +kernel
theorem pop8_pc (n : Nat) (h : n < 256) : Lib.pop8 (n : Int) = (pcN 8 n : Int) := pop8_pcF ⟨n, h⟩
theorem and255 (x : Nat) (hx : x < 4294967296) : bits .and .u32 (x : Int) 255 = ((x % 256 : Nat) : Int) := by
  rw [show (255 : Int) = ((255 : Nat) : Int) from rfl, u32_and_nat _ _ hx (by decide), show (255 : Nat) = 2 ^ 8 - 1 from rfl, Nat.and_two_pow_sub_one_eq_mod]
end
end
end Go.Proofs.YtccohcdgcpcbjaaDoor
