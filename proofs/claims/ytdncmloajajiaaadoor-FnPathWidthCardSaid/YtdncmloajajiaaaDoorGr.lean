/- The law package's own helpers on lists and rows: size, copy, comparison. · The law package's own helpers: two lists, two slices of rows are compared. · The law package's own helpers: a result is overwritten by numbers that go up, and held against them. · The law package's own helpers on graphs. -/
import Derived.Test.YtdncmloajajiaaaDoorMem
namespace Go.Proofs.YtdncmloajajiaaaDoor
open Go.RowKit
section

def sz1 (n : Nat) (left : Int) : Int := if left - n < 0 then -1 else left - n
def szs : List Row → Int → Int
  | [], left => left
  | r :: rs, left => if sz1 r.z.length left < 0 then -1 else szs rs (sz1 r.z.length left)
def sz2 (rs : List Row) (left : Int) : Int := if left - rs.length < 0 then -1 else szs rs (left - rs.length)
theorem sz1_le (n : Nat) (left : Int) (h : 0 ≤ left) : sz1 n left ≤ left ∧ (sz1 n left = -1 ∨ 0 ≤ sz1 n left) := by unfold sz1; split <;> omega
theorem nums_snoc (rs' rs : List Row) (k : Nat) (hk : k < rs.length) (r : Row) (hz : r.z = rs[k].z) (h : nums rs' = nums (rs.take k)) : nums (rs' ++ [r]) = nums (rs.take (k + 1)) := by
  rw [List.take_succ_eq_append_getElem hk]
  simp only [nums, List.map_append, List.map_cons, List.map_nil] at h ⊢
  rw [h, hz]
end
section

theorem nums_take_succ (rs : List Row) (k : Nat) (h : k < rs.length) : nums (rs.take (k + 1)) = nums (rs.take k) ++ [rs[k].z] := by
  rw [List.take_succ_eq_append_getElem h, nums, List.map_append]; rfl
theorem nums_get {rs qs : List Row} (h : nums rs = nums qs) (k : Nat) (h1 : k < rs.length) (h2 : k < qs.length) : rs[k].z = qs[k].z := by
  have e1 : (nums rs)[k]? = some rs[k].z := by simp [nums, List.getElem?_eq_getElem h1]
  have e2 : (nums qs)[k]? = some qs[k].z := by simp [nums, List.getElem?_eq_getElem h2]
  rw [h, e2] at e1
  exact (Option.some.inj e1).symm
end
section

theorem markRows_at (k : Int) (A : List Row) (j : Nat) (h : j < A.length) : (markRows k A)[j]'(by rw [markRows_length]; exact h) = { A[j] with z := upFrom (k + total (A.take j)) A[j].z.length } := by
  have e : (markRows k A)[j]? = some { A[j] with z := upFrom (k + total (A.take j)) A[j].z.length } := by
    have h1 : A = A.take j ++ A[j] :: A.drop (j + 1) := by rw [← List.drop_eq_getElem_cons h, List.take_append_drop]
    have h2 : markRows k A = markRows k (A.take j) ++ markRows (k + total (A.take j)) (A[j] :: A.drop (j + 1)) := by
      rw [← markRows_append, ← h1]
    rw [h2, List.getElem?_append_right (by simp [markRows_length]; omega)]
    simp [markRows_length, Nat.min_eq_left (Nat.le_of_lt h), markRows]
  exact Option.some.inj ((List.getElem?_eq_getElem _).symm.trans e)
end
section

theorem szs_sign (rs : List Row) (x : Int) (h : 0 ≤ x) : szs rs x = -1 ∨ 0 ≤ szs rs x := by
  induction rs generalizing x with
  | nil => exact .inr h
  | cons r rs ih =>
    have := sz1_le r.z.length x h
    unfold szs
    split
    · exact .inl rfl
    · exact ih _ (by omega)
theorem sz2_sign (rs : List Row) (x : Int) (_h : 0 ≤ x) : sz2 rs x = -1 ∨ 0 ≤ sz2 rs x := by
  unfold sz2
  split
  · exact .inl rfl
  · exact szs_sign _ _ (by omega)
theorem szs_small (rs : List Row) (x : Int) (h : 0 ≤ x) (hs : 0 ≤ szs rs x) : szs rs x ≤ x ∧ (total rs : Int) + szs rs x = x := by
  induction rs generalizing x with
  | nil => simp [szs, total]
  | cons r rs ih =>
    unfold szs at hs ⊢
    split at hs
    · omega
    · rename_i hn
      rw [if_neg hn]
      have h1 : sz1 r.z.length x = x - r.z.length := by unfold sz1 at hn ⊢; split <;> simp_all
      rw [h1] at hs hn ⊢
      obtain ⟨i1, i2⟩ := ih (x - r.z.length) (by omega) hs
      simp only [total]
      omega
theorem len_le_total (rs : List Row) : ∀ r ∈ rs, r.z.length ≤ total rs := by
  induction rs with
  | nil => intro r hr; cases hr
  | cons q rs ih =>
    intro r hr
    simp only [total]
    rcases List.mem_cons.1 hr with rfl | h
    · omega
    · have := ih r h; omega
/-- What passes the law's own test of size is small. -/
theorem sz2_small (rs : List Row) (x : Int) (h : 0 ≤ x) (h1 : x ≤ 1048576) (hs : 0 ≤ sz2 rs x) : Small rs ∧ total rs ≤ 1048576 ∧ sz2 rs x ≤ x := by
  unfold sz2 at hs ⊢
  split at hs
  · omega
  · rename_i hn
    rw [if_neg hn]
    obtain ⟨h2, h3⟩ := szs_small rs (x - rs.length) (by omega) hs
    refine ⟨⟨by omega, fun r hr => ?_⟩, by omega, by omega⟩
    have := len_le_total rs r hr
    omega
theorem sz2_le (rs : List Row) (x : Int) (h : 0 ≤ x) (h1 : x ≤ 1048576) : sz2 rs x ≤ 1048576 := by
  by_cases hs : 0 ≤ sz2 rs x
  · exact Int.le_trans (sz2_small rs x h h1 hs).2.2 h1
  · omega
theorem Small.congr {rs qs : List Row} (h : nums rs = nums qs) (hs : Small rs) : Small qs := by
  have hl : rs.length = qs.length := by simpa [nums] using congrArg List.length h
  refine ⟨by have := hs.1; omega, fun r hr => ?_⟩
  have : r.z ∈ nums rs := by rw [h]; exact List.mem_map_of_mem hr
  obtain ⟨q, hq, e⟩ := List.mem_map.1 this
  rw [← e]; exact hs.2 q hq
/-- Rows were copied: the copies, and what is known of them. -/
structure Cp (w w' : World) (rs rs' : List Row) (a' : Option Addr) (c' : Nat) : Prop where
  nums : nums rs' = nums rs
  own : OwnM 33 2 w' w.heap.size (.slice a' rs'.length c') rs'
  rd : RdM w' a' rs'
  small : Small rs'
  below : Below w.heap.size w w'
  cap : rs'.length ≤ c' ∧ c' ≤ maxLen ∧ (a' = none → c' = 0)
theorem cp_of {w w' : World} {rs rs' : List Row} {v : Value} (h1 : nums rs' = nums rs) (h2 : OwnM 33 2 w' w.heap.size v rs') (h3 : Below w.heap.size w w') (hs : Small rs) : ∃ a' c', v = .slice a' rs'.length c' ∧ Cp w w' rs rs' a' c' := by
  obtain ⟨a', c', rfl, hr, h4, h5, h6⟩ := h2.rd
  exact ⟨a', c', rfl, h1, h2, hr, Small.congr h1.symm hs, h3, h4, h5, h6⟩
theorem alloc_below (w : World) (o : Obj) : Below w.heap.size w (w.alloc o) := (Below.refl _ _).alloc (Nat.le_refl _) _
/-- A call hands back a graph of its own. -/
def RetOwnG (eo ei : TypeId) (zss : List (List Int)) (w : World) (E : Ending) (w' : World) : Prop :=
  ∃ v rs, E = .returned (.agg #[v]) ∧ nums rs = zss ∧ OwnM eo ei w' w.heap.size v rs ∧ Below w.heap.size w w'
/-- A list was copied. -/
structure Cp1 (w w' : World) (zs : List Int) (a' : Option Addr) (c' : Nat) : Prop where
  own : Own 2 w' w.heap.size (.slice a' zs.length c') (zs.map (.int .i64))
  rd : Rd (Value.int .i64) w' a' zs
  below : Below w.heap.size w w'
  cap : zs.length ≤ c' ∧ c' ≤ maxLen ∧ (a' = none → c' = 0)
end
end Go.Proofs.YtdncmloajajiaaaDoor
