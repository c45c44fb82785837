/- TouchIn: both. · TouchIn: the program's. -/
import Derived.Test.YtdncmloajajiaaaDoorClique
import Derived.Test.YtdncmloajajiaaaDoorCode2
namespace Go.Proofs.YtdncmloajajiaaaDoor
open Go.RowKit
section
/-- How many of a list are neighbours of v. -/
noncomputable def nearN (g : List (List Int)) (l : List Int) (v : Int) : Nat := cntR l.length fun i => decide (v ∈ row g (l.getD i 0))
theorem nearN_pos {g : List (List Int)} {l : List Int} {v : Int} : 0 < nearN g l v ↔ ∃ y ∈ l, v ∈ row g y := by
  unfold nearN cntR
  rw [List.length_pos_iff_exists_mem]
  constructor
  · rintro ⟨i, hi⟩
    rw [List.mem_filter, List.mem_range] at hi
    refine ⟨l[i], List.getElem_mem hi.1, ?_⟩
    have := hi.2
    rw [getD_eq l i hi.1] at this
    simpa using this
  · rintro ⟨y, hy, hv⟩
    obtain ⟨i, hi, rfl⟩ := List.mem_iff_getElem.1 hy
    refine ⟨i, ?_⟩
    rw [List.mem_filter, List.mem_range, getD_eq l i hi]
    exact ⟨hi, by simpa using hv⟩
theorem flag_n (b : Bool) (nb : Nat) (w : World) (h : bit01 b = nb) : Calls Tryd.prog 103 #[.bool b] w fun e w' => e = .returned (.int .i64 nb) ∧ w = w' := by
  subst h
  refine (l1Flag_any b w).mono ?_
  rintro e w' ⟨rfl, rfl⟩
  cases b <;> exact ⟨rfl, rfl⟩
def TouchL (g : List (List Int)) (a b : List Int) : Prop := ∃ x ∈ a, x ∈ b ∨ ∃ y ∈ b, x ∈ row g y
noncomputable instance (g : List (List Int)) (a b : List Int) : Decidable (TouchL g a b) := Classical.propDecidable _
def TouchP (g : List (List Int)) (a b : List Int) : Prop := SetP g a ∧ SetP g b ∧ TouchL g a b
noncomputable instance (g : List (List Int)) (a b : List Int) : Decidable (TouchP g a b) := Classical.propDecidable _
end
section
/-- Two sets touch. -/
def TouchM (A : List Nat) (s t : Nat) : Prop := s &&& t ≠ 0 ∨ ∃ v ∈ mems s, A.getD v.toNat 0 &&& t ≠ 0
noncomputable instance (A : List Nat) (s t : Nat) : Decidable (TouchM A s t) := Classical.propDecidable _
/-- The members of a set under 2 ^ n are under n. -/
theorem mems_under {s n : Nat} (hs : s < 2 ^ n) (hn : n ≤ 16) : ∀ u ∈ mems s, 0 ≤ u ∧ u < n := by
  intro u hu
  have hs16 : s < 65536 := Nat.lt_of_lt_of_le hs (Nat.pow_le_pow_right (n := 2) (i := n) (j := 16) (by decide) hn)
  obtain ⟨i, rfl, hb⟩ := (mems_mem (by omega)).1 hu
  have : i < n := by
    apply Classical.byContradiction
    intro hn2
    have h2 : s < 2 ^ i := Nat.lt_of_lt_of_le hs (Nat.pow_le_pow_right (n := 2) (i := n) (j := i) (by decide) (by omega))
    rw [Nat.testBit_lt_two_pow h2] at hb; cases hb
  omega
/-- Of sets of a graph: touching, told both ways. -/
theorem touch_iff {g : List (List Int)} {a b : List Int} (ha : SetP g a) (hb : SetP g b) : TouchM (g.map maskL) (maskL a) (maskL b) ↔ TouchL g a b := by
  have hg := ha.1
  have h16 := hg.le
  have na : ∀ v ∈ a, 0 ≤ v := fun v hv => (ha.2.1 v hv).1
  have nb : ∀ v ∈ b, 0 ≤ v := fun v hv => (hb.2.1 v hv).1
  have hnz : ∀ m : Nat, m ≠ 0 ↔ ∃ i, m.testBit i = true := by
    intro m
    constructor
    · intro h
      apply Classical.byContradiction
      intro hn
      exact h ((eq_zero_iff m).2 fun i => by
        cases hb : m.testBit i with
        | false => rfl
        | true => exact absurd ⟨i, hb⟩ hn)
    · rintro ⟨i, hi⟩ rfl
      rw [Nat.zero_testBit] at hi; cases hi
  unfold TouchM
  rw [mems_maskL ha.2 (by omega), hnz]
  constructor
  · rintro (⟨i, hi⟩ | ⟨v, hv, h⟩)
    · rw [Nat.testBit_and, testBit_maskL a i na, testBit_maskL b i nb] at hi
      simp at hi
      exact ⟨(i : Int), hi.1, .inl hi.2⟩
    · have hv2 := ha.2.1 v hv
      obtain ⟨n, rfl⟩ := Int.eq_ofNat_of_zero_le hv2.1
      have hn : n < g.length := by omega
      have e1 : (g.map maskL).getD (n : Int).toNat 0 = maskL (row g (n : Int)) := by
        rw [Int.toNat_natCast, List.getD_eq_getElem?_getD, List.getElem?_map, List.getElem?_eq_getElem hn, row_nat _ _ hn]; rfl
      rw [e1, hnz] at h
      obtain ⟨i, hi⟩ := h
      rw [Nat.testBit_and, testBit_maskL _ _ (fun v hv => (gok_range hg (u := (n : Int)) (by omega) (by omega) hv).1), testBit_maskL b i nb] at hi
      simp at hi
      have hir := gok_range hg (u := (n : Int)) (by omega) (by omega) hi.1
      exact ⟨(n : Int), hv, .inr ⟨(i : Int), hi.2, (gok_sym hg hir.1 hir.2 (by omega) (by omega)).2 hi.1⟩⟩
  · rintro ⟨x, hx, h | ⟨y, hy, h⟩⟩
    · have hx2 := ha.2.1 x hx
      obtain ⟨n, rfl⟩ := Int.eq_ofNat_of_zero_le hx2.1
      left
      refine ⟨n, ?_⟩
      rw [Nat.testBit_and, testBit_maskL a n na, testBit_maskL b n nb]
      simp [hx, h]
    · have hx2 := ha.2.1 x hx
      have hy2 := hb.2.1 y hy
      obtain ⟨n, rfl⟩ := Int.eq_ofNat_of_zero_le hx2.1
      obtain ⟨m, rfl⟩ := Int.eq_ofNat_of_zero_le hy2.1
      have hn : n < g.length := by omega
      right
      refine ⟨(n : Int), hx, ?_⟩
      have e1 : (g.map maskL).getD (n : Int).toNat 0 = maskL (row g (n : Int)) := by
        rw [Int.toNat_natCast, List.getD_eq_getElem?_getD, List.getElem?_map, List.getElem?_eq_getElem hn, row_nat _ _ hn]; rfl
      rw [e1, hnz]
      refine ⟨m, ?_⟩
      rw [Nat.testBit_and, testBit_maskL _ _ (fun v hv => (gok_range hg (u := (n : Int)) (by omega) (by omega) hv).1), testBit_maskL b m nb]
      have := (gok_sym hg (u := (m : Int)) (v := (n : Int)) (by omega) (by omega) (by omega) (by omega)).1 h
      simp [this, hy]
end
end Go.Proofs.YtdncmloajajiaaaDoor
