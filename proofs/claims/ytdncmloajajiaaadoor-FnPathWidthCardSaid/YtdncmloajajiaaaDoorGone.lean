/- How many pairs of a list are no neighbours: the reference's. · The neighbours that are left, and who is left: plain. -/
import Derived.Test.YtdncmloajajiaaaDoorMiss
import Derived.Test.YtdncmloajajiaaaDoorSetOk
import Derived.Test.YtdncmloajajiaaaDoorMem3
import Derived.Test.YtdncmloajajiaaaDoorMask
namespace Go.Proofs.YtdncmloajajiaaaDoor
open Go.RowKit
section
theorem cntR_take_le (n : Nat) (P : Nat → Bool) : cntR n P ≤ n := cntR_le n P
end
section
def goneL (S n : Nat) : List Bool := (List.range n).map fun v => !S.testBit v
theorem goneL_len (S n : Nat) : (goneL S n).length = n := by simp [goneL]
theorem goneL_get (S n v : Nat) (h : v < (goneL S n).length) : (goneL S n)[v] = !S.testBit v := by simp [goneL]
theorem goneL_set (S n b : Nat) : (goneL S n).set b true = goneL (dif S (2 ^ b)) n := by
  apply List.ext_getElem (by simp [goneL])
  intro i h1 h2
  rw [List.getElem_set, goneL_get, goneL_get, testBit_dif, Nat.testBit_two_pow]
  by_cases h : b = i <;> simp [h]
theorem goneL_all (n : Nat) : goneL (2 ^ n - 1) n = List.replicate n false := by
  apply List.ext_getElem (by simp [goneL])
  intro i h1 h2
  rw [goneL_get, Nat.testBit_two_pow_sub_one, List.getElem_replicate]
  rw [goneL_len] at h1; simp [h1]
def leftL (l : List Int) (S : Nat) : List Int := l.filter fun x => S.testBit x.toNat
theorem leftL_succ (l : List Int) (S k : Nat) (h : k < l.length) : leftL (l.take (k + 1)) S = leftL (l.take k) S ++ if S.testBit l[k].toNat = true then [l[k]] else [] := by
  unfold leftL
  rw [List.take_succ_eq_append_getElem h, List.filter_append]
  by_cases hm : S.testBit l[k].toNat = true <;> simp [hm]
theorem leftL_len (l : List Int) (S : Nat) : (leftL l S).length ≤ l.length := List.length_filter_le _ _
theorem leftL_mem {l : List Int} {S : Nat} {x : Int} : x ∈ leftL l S ↔ x ∈ l ∧ S.testBit x.toNat = true := by simp [leftL]
theorem leftL_inc {n : Int} {l : List Int} (h : Inc n l) (S : Nat) : Inc n (leftL l S) := ⟨fun x hx => h.1 x (leftL_mem.1 hx).1, h.2.filter _⟩
theorem leftL_mask {n : Int} {l : List Int} (h : Inc n l) (S : Nat) : maskL (leftL l S) = maskL l &&& S := by
  apply Nat.eq_of_testBit_eq
  intro i
  rw [Nat.testBit_and, testBit_maskL _ i (fun v hv => (h.1 v (leftL_mem.1 hv).1).1), testBit_maskL l i (fun v hv => (h.1 v hv).1), Bool.eq_iff_iff]
  simp [leftL_mem]
theorem inc_nodup {n : Int} {l : List Int} (h : Inc n l) : l.Nodup := h.2.imp (fun h => Int.ne_of_lt h)
theorem leftL_pc {n : Int} {l : List Int} (h : Inc n l) (hn : n ≤ 16) (S : Nat) : pcN 16 (maskL l &&& S) = (leftL l S).length := by
  apply pc_count (inc_nodup (leftL_inc h S))
  intro v
  rw [leftL_mem]
  constructor
  · rintro ⟨h1, h2⟩
    have h3 := h.1 v h1
    refine ⟨v.toNat, by omega, by omega, ?_⟩
    rw [Nat.testBit_and, testBit_maskL l _ (fun v hv => (h.1 v hv).1), h2, Int.toNat_of_nonneg h3.1]
    simp [h1]
  · rintro ⟨i, rfl, _, h3⟩
    rw [Nat.testBit_and, testBit_maskL l _ (fun v hv => (h.1 v hv).1), Bool.and_eq_true, decide_eq_true_iff] at h3
    exact ⟨h3.1, by simpa using h3.2⟩
def leftN (S n : Nat) : List Nat := (List.range n).filter fun i => S.testBit i
theorem leftN_succ (S k : Nat) : leftN S (k + 1) = leftN S k ++ if S.testBit k = true then [k] else [] := by
  unfold leftN
  rw [List.range_succ, List.filter_append]
  by_cases h : S.testBit k = true <;> simp [h]
theorem leftN_mem {S n i : Nat} : i ∈ leftN S n ↔ i < n ∧ S.testBit i = true := by simp [leftN]
theorem bit_under {S n i : Nat} (h : S < 2 ^ n) (hi : S.testBit i = true) : i < n := by
  apply Classical.byContradiction
  intro hn
  have h2 : S < 2 ^ i := Nat.lt_of_lt_of_le h (Nat.pow_le_pow_right (n := 2) (by decide) (by omega))
  rw [Nat.testBit_lt_two_pow h2] at hi
  cases hi
theorem memsN_left {S n : Nat} (h : S < 2 ^ n) (hn : n ≤ 32) : memsN S = leftN S n := by
  unfold memsN leftN
  rw [show 32 = n + (32 - n) by omega, List.range_add, List.filter_append]
  have e : List.filter (fun i => S.testBit i) (List.map (fun x => n + x) (List.range (32 - n))) = [] := by
    rw [List.filter_eq_nil_iff]
    intro a ha
    obtain ⟨i, _, rfl⟩ := List.mem_map.1 ha
    intro hb
    have := bit_under h hb
    omega
  rw [e, List.append_nil]
theorem memsN_nodup (S : Nat) : (memsN S).Nodup := by
  unfold memsN
  exact List.Pairwise.filter _ List.nodup_range
theorem dif_bit_lt {S b : Nat} (hb : S.testBit b = true) : dif S (2 ^ b) < S := by
  have h1 := dif_le S (2 ^ b)
  have h2 : dif S (2 ^ b) ≠ S := by
    intro e
    have := testBit_dif S (2 ^ b) b
    rw [e, hb, Nat.testBit_two_pow] at this
    simp at this
  omega
theorem memsN_dif {S b : Nat} (hS : S < 4294967296) (hb : S.testBit b = true) : (memsN (dif S (2 ^ b))).length + 1 = (memsN S).length := by
  have e : memsN (dif S (2 ^ b)) = (memsN S).erase b := by
    rw [List.Nodup.erase_eq_filter (memsN_nodup S)]
    unfold memsN
    rw [List.filter_filter]
    apply List.filter_congr
    intro i _
    rw [testBit_dif, Nat.testBit_two_pow, Bool.eq_iff_iff]
    simp
    constructor
    · rintro ⟨h1, h2⟩; exact ⟨fun e => h2 e.symm, h1⟩
    · rintro ⟨h1, h2⟩; exact ⟨h2, fun e => h1 e.symm⟩
  have hm : b ∈ memsN S := (memsN_mem hS).2 hb
  rw [e, List.length_erase_of_mem hm]
  have := List.length_pos_of_mem hm
  omega
theorem memsN_nil {S : Nat} (hS : S < 4294967296) : (memsN S).length = 0 ↔ S = 0 := by
  constructor
  · intro h
    have h2 := List.eq_nil_of_length_eq_zero h
    apply Classical.byContradiction
    intro h0
    have := (memsN_mem hS).2 (low_bit h0 hS)
    rw [h2] at this; cases this
  · rintro rfl; rw [memsN_zero]; rfl
theorem memsN_full {n : Nat} (hn : n ≤ 32) : (memsN (2 ^ n - 1)).length = n := by
  have hp := Nat.two_pow_pos n
  rw [memsN_left (n := n) (by omega) hn]
  unfold leftN
  rw [List.filter_eq_self.2]
  · simp
  · intro a ha; rw [List.mem_range] at ha; rw [Nat.testBit_two_pow_sub_one]; simpa using ha
end
end Go.Proofs.YtdncmloajajiaaaDoor
