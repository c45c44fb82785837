/- Plain facts: the degrees, sorted. -/
import Derived.Test.YthdfkpinaidkkaaTrailM
namespace Go.Proofs.Ythdfkpinaidkkaa
def leI (x y : Int) : Bool := decide (x ≤ y)
theorem sort_eq {l l' : List Int} (hp : l'.Perm l) (hs : l'.Pairwise (· ≤ ·)) : l.mergeSort (fun x y => decide (x ≤ y)) = l' := by
  have h1 : (l.mergeSort (fun x y => decide (x ≤ y))).Pairwise (fun x y => decide (x ≤ y) = true) := List.pairwise_mergeSort (fun a b c h1 h2 => by simp at *; omega) (fun a b => by simp; omega) l
  have h2 : (l.mergeSort (fun x y => decide (x ≤ y))).Perm l' := (List.mergeSort_perm l _).trans hp.symm
  refine h2.eq_of_pairwise (le := fun x y => x ≤ y) (fun a b _ _ h3 h4 => by omega) (h1.imp (fun h => by simpa using h)) hs
/-- What lies under k, value by value. -/
def segTo (l : List Int) (k : Nat) : List Int := (List.range k).flatMap fun d : Nat => l.filter fun x => decide (x = (d : Int))
theorem segTo_succ (l : List Int) (k : Nat) : segTo l (k + 1) = segTo l k ++ l.filter fun x => decide (x = (k : Int)) := by simp [segTo, List.range_succ]
theorem filter_split (l : List Int) (k : Nat) : (l.filter fun x => decide (x < ((k + 1 : Nat) : Int))).Perm ((l.filter fun x => decide (x < (k : Int))) ++ l.filter fun x => decide (x = (k : Int))) := by
  induction l with
  | nil => exact List.Perm.refl _
  | cons y l ih =>
    by_cases h1 : y < (k : Int)
    · rw [List.filter_cons_of_pos (by simp; omega), List.filter_cons_of_pos (by simpa using h1), List.filter_cons_of_neg (by simp; omega)]
      exact ih.cons y
    · by_cases h2 : y = (k : Int)
      · rw [List.filter_cons_of_pos (by simp; omega), List.filter_cons_of_neg (by simpa using h1), List.filter_cons_of_pos (by simpa using h2)]
        exact (ih.cons y).trans List.perm_middle.symm
      · rw [List.filter_cons_of_neg (by simp; omega), List.filter_cons_of_neg (by simpa using h1), List.filter_cons_of_neg (by simpa using h2)]
        exact ih
theorem segTo_perm {l : List Int} (h0 : ∀ x ∈ l, 0 ≤ x) (k : Nat) : (segTo l k).Perm (l.filter fun x => decide (x < (k : Int))) := by
  induction k with
  | zero =>
    have : (l.filter fun x => decide (x < ((0 : Nat) : Int))) = [] := by
      rw [List.filter_eq_nil_iff]
      intro x hx h
      have := h0 x hx
      simp at h; omega
    rw [this]; exact List.Perm.refl _
  | succ k ih =>
    rw [segTo_succ]
    exact (ih.append_right _).trans (filter_split l k).symm
theorem segTo_lt {l : List Int} {k : Nat} {x : Int} (h : x ∈ segTo l k) : x < k := by
  unfold segTo at h
  rw [List.mem_flatMap] at h
  obtain ⟨d, hd, hx⟩ := h
  rw [List.mem_range] at hd
  rw [List.mem_filter] at hx
  have := hx.2
  simp at this; omega
theorem segTo_sorted (l : List Int) (k : Nat) : (segTo l k).Pairwise (· ≤ ·) := by
  induction k with
  | zero => exact List.Pairwise.nil
  | succ k ih =>
    rw [segTo_succ, List.pairwise_append]
    refine ⟨ih, ?_, ?_⟩
    · have h1 : ∀ x ∈ l.filter (fun x => decide (x = (k : Int))), x = k := fun x hx => by
        rw [List.mem_filter] at hx; simpa using hx.2
      rw [List.pairwise_iff_getElem]
      intro i j hi hj _
      rw [h1 _ (List.getElem_mem hi), h1 _ (List.getElem_mem hj)]
      exact Int.le_refl _
    · intro x hx y hy
      have h1 := segTo_lt hx
      rw [List.mem_filter] at hy
      have h2 : y = (k : Int) := by simpa using hy.2
      omega
theorem seg_sort {l : List Int} {n : Nat} (h : ∀ x ∈ l, 0 ≤ x ∧ x < n) : l.mergeSort (fun x y => decide (x ≤ y)) = segTo l n := by
  refine sort_eq ?_ (segTo_sorted l n)
  have h1 := segTo_perm (l := l) (fun x hx => (h x hx).1) n
  have h2 : (l.filter fun x => decide (x < (n : Int))) = l := by
    rw [List.filter_eq_self]
    intro x hx
    have := (h x hx).2
    simpa using this
  rwa [h2] at h1
def degs (g : List (List Int)) : List Int := g.map fun r => ((r.length : Nat) : Int)
noncomputable def degSort (g : List (List Int)) : List Int := if GOk g then segTo (degs g) g.length else []
theorem degs_in {g : List (List Int)} (hg : GOk g) : ∀ x ∈ degs g, 0 ≤ x ∧ x < g.length := by
  intro x hx
  unfold degs at hx
  rw [List.mem_map] at hx
  obtain ⟨r, hr, rfl⟩ := hx
  obtain ⟨i, hi, rfl⟩ := List.mem_iff_getElem.1 hr
  have h1 := hg.inc i hi
  have h2 := hg.irr i hi
  rw [row_nat _ _ hi] at h1 h2
  refine ⟨by omega, ?_⟩
  -- a row of n different numbers under n would hold i
  apply Classical.byContradiction
  intro hn
  have hnd : (g[i]).Nodup := h1.2.imp (fun h => Int.ne_of_lt h)
  have hcons : ((i : Int) :: g[i]).Nodup := List.nodup_cons.2 ⟨h2, hnd⟩
  have := nodup_le ((i : Int) :: g[i]) g.length hcons (fun x hx => by
    rcases List.mem_cons.1 hx with rfl | h
    · omega
    · exact h1.1 x h)
  simp at this; omega
theorem degSort_ok {g : List (List Int)} (hg : GOk g) : degSort g = (degs g).mergeSort (fun x y => decide (x ≤ y)) := by
  unfold degSort
  rw [if_pos hg, seg_sort (degs_in hg)]
theorem segTo_len (l : List Int) (h0 : ∀ x ∈ l, 0 ≤ x) (k : Nat) : (segTo l k).length ≤ l.length := by
  rw [(segTo_perm h0 k).length_eq]; exact List.length_filter_le _ _
theorem degSort_len (g : List (List Int)) : (degSort g).length ≤ 1048576 := by
  unfold degSort
  split
  · rename_i h
    have h1 := segTo_len (degs g) (fun x hx => (degs_in h x hx).1) g.length
    have h2 : (degs g).length = g.length := by simp [degs]
    have := h.le; omega
  · exact Nat.zero_le _
end Go.Proofs.Ythdfkpinaidkkaa
