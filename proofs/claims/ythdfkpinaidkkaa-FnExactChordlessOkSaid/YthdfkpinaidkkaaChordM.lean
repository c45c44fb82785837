/- Plain facts: a loop has no chord, where each of its vertices has two neighbours on it. -/
import Derived.Test.YthdfkpinaidkkaaTrailM
import Derived.Test.YthdfkpinaidkkaaPop
namespace Go.Proofs.Ythdfkpinaidkkaa
/-- The numbers under 16 in both lists. -/
def both (A B : List Int) : List Nat := (List.range 16).filter fun i => decide ((i : Int) ∈ A ∧ (i : Int) ∈ B)
theorem both_mem {A B : List Int} {i : Nat} : i ∈ both A B ↔ i < 16 ∧ (i : Int) ∈ A ∧ (i : Int) ∈ B := by simp [both]
theorem both_nodup (A B : List Int) : (both A B).Nodup := List.nodup_range.filter _
theorem pcN_both (A B : List Int) (hA : ∀ v ∈ A, 0 ≤ v) (hB : ∀ v ∈ B, 0 ≤ v) : pcN 16 (maskL A &&& maskL B) = (both A B).length := by
  rw [pcN_filter]
  unfold both
  congr 2
  funext i
  rw [Nat.testBit_and, testBit_maskL A i hA, testBit_maskL B i hB]
  simp
theorem len_two {F : List Nat} (hd : F.Nodup) {a b : Nat} (ha : a ∈ F) (hb : b ∈ F) (hab : a ≠ b) : F.length = 2 ↔ ∀ x ∈ F, x = a ∨ x = b := by
  constructor
  · intro h x hx
    apply Classical.byContradiction
    intro hn
    have h1 : x ≠ a := fun e => hn (Or.inl e)
    have h2 : x ≠ b := fun e => hn (Or.inr e)
    have : ([x, a, b] : List Nat).Nodup := by simp [h1, h2, hab]
    have := this.length_le_of_subset (l₂ := F) (by intro y hy; simp at hy; rcases hy with rfl | rfl | rfl <;> assumption)
    simp at this; omega
  · intro h
    have h1 := hd.length_le_of_subset (l₂ := [a, b]) (by intro y hy; simpa using h y hy)
    have : ([a, b] : List Nat).Nodup := by simp [hab]
    have h2 := this.length_le_of_subset (l₂ := F) (by intro y hy; simp at hy; rcases hy with rfl | rfl <;> assumption)
    simp at h1 h2; omega
structure ChordP (g : List (List Int)) (l : List Int) : Prop where
  loop : LoopP g l
  long : 4 ≤ l.length
  none : ∀ i k, k + 1 < i → i < l.length → ¬ (k = 0 ∧ i = l.length - 1) → l.getD i 0 ∉ row g (l.getD k 0)
noncomputable instance (g : List (List Int)) (l : List Int) : Decidable (ChordP g l) := Classical.propDecidable _
def prv (n i : Nat) : Nat := if i = 0 then n - 1 else i - 1
def nxt (n i : Nat) : Nat := if i + 1 = n then 0 else i + 1
section
variable {g : List (List Int)} {l : List Int}
theorem LoopP.rng (h : LoopP g l) {i : Nat} (hi : i < l.length) : 0 ≤ l.getD i 0 ∧ l.getD i 0 < g.length := (h.trail i hi).1
theorem LoopP.inj (h : LoopP g l) {i j : Nat} (hi : i < l.length) (hj : j < l.length) (e : l.getD i 0 = l.getD j 0) : i = j := by
  have hd := trail_nodup h.trail (Nat.le_refl _)
  rw [List.take_length] at hd
  rw [getD_eq l i hi, getD_eq l j hj] at e
  exact (List.getElem_inj hd).1 e
theorem LoopP.adj_sym (h : LoopP g l) {i j : Nat} (hi : i < l.length) (hj : j < l.length) : l.getD i 0 ∈ row g (l.getD j 0) ↔ l.getD j 0 ∈ row g (l.getD i 0) :=
  gok_sym h.ok (h.rng hj).1 (h.rng hj).2 (h.rng hi).1 (h.rng hi).2
theorem LoopP.adj_nxt (h : LoopP g l) {i : Nat} (hi : i < l.length) : l.getD (nxt l.length i) 0 ∈ row g (l.getD i 0) := by
  have h3 := h.long
  unfold nxt
  split
  · rename_i e
    rw [h.adj_sym (by omega) hi, show i = l.length - 1 by omega]
    exact h.back
  · have := (h.trail (i + 1) (by omega)).2.2 (by omega)
    simpa using this
theorem LoopP.adj_prv (h : LoopP g l) {i : Nat} (hi : i < l.length) : l.getD (prv l.length i) 0 ∈ row g (l.getD i 0) := by
  have h3 := h.long
  unfold prv
  split
  · rename_i e; subst e; exact h.back
  · rw [h.adj_sym (by omega) hi]
    exact (h.trail i hi).2.2 (by omega)
theorem LoopP.mem (_h : LoopP g l) {i : Nat} (hi : i < l.length) : l.getD i 0 ∈ l := by rw [getD_eq l i hi]; exact List.getElem_mem hi
theorem LoopP.get (_h : LoopP g l) {x : Int} (hx : x ∈ l) : ∃ i, i < l.length ∧ l.getD i 0 = x := by
  obtain ⟨i, hi, rfl⟩ := List.mem_iff_getElem.1 hx
  exact ⟨i, hi, getD_eq l i hi⟩
theorem LoopP.in_both (h : LoopP g l) {i j : Nat} (_hi : i < l.length) (hj : j < l.length) (ha : l.getD j 0 ∈ row g (l.getD i 0)) : (l.getD j 0).toNat ∈ both (row g (l.getD i 0)) l := by
  have h1 := h.rng hj
  have h2 := h.ok.le
  rw [both_mem, Int.toNat_of_nonneg h1.1]
  exact ⟨by omega, ha, h.mem hj⟩
/-- At one vertex: two neighbours on the loop, or others too. -/
theorem LoopP.two (h : LoopP g l) {i : Nat} (hi : i < l.length) :
    (both (row g (l.getD i 0)) l).length = 2 ↔ ∀ j, j < l.length → l.getD j 0 ∈ row g (l.getD i 0) → j = prv l.length i ∨ j = nxt l.length i := by
  have h3 := h.long
  have hp : prv l.length i < l.length := by unfold prv; split <;> omega
  have hn : nxt l.length i < l.length := by unfold nxt; split <;> omega
  have hne : prv l.length i ≠ nxt l.length i := by unfold prv nxt; split <;> split <;> omega
  have t : ∀ {a b : Nat}, a < l.length → b < l.length → ((l.getD a 0).toNat = (l.getD b 0).toNat ↔ a = b) := by
    intro a b ha hb
    constructor
    · intro e
      apply h.inj ha hb
      have := (h.rng ha).1; have := (h.rng hb).1; omega
    · rintro rfl; rfl
  rw [len_two (both_nodup _ _) (h.in_both hi hp (h.adj_prv hi)) (h.in_both hi hn (h.adj_nxt hi)) (fun e => hne ((t hp hn).1 e))]
  constructor
  · intro hh j hj ha
    have := hh _ (h.in_both hi hj ha)
    rwa [t hj hp, t hj hn] at this
  · intro hh x hx
    rw [both_mem] at hx
    obtain ⟨j, hj, e⟩ := h.get hx.2.2
    have h1 := hh j hj (by rw [e]; exact hx.2.1)
    have e2 : x = (l.getD j 0).toNat := by rw [e]; simp
    rw [e2, t hj hp, t hj hn]
    exact h1
/-- No chord: two neighbours at each vertex. -/
theorem chord_iff (h : LoopP g l) (h4 : 4 ≤ l.length) : ChordP g l ↔ ∀ v ∈ l, pcN 16 (maskL (row g v) &&& maskL l) = 2 := by
  have key : ∀ i, i < l.length → pcN 16 (maskL (row g (l.getD i 0)) &&& maskL l) = (both (row g (l.getD i 0)) l).length := by
    intro i hi
    apply pcN_both
    · intro v hv; exact (gok_range h.ok (h.rng hi).1 (h.rng hi).2 hv).1
    · intro v hv
      obtain ⟨j, hj, e⟩ := h.get hv
      rw [← e]; exact (h.rng hj).1
  constructor
  · intro hc v hv
    obtain ⟨i, hi, e⟩ := h.get hv
    rw [← e, key i hi, h.two hi]
    intro j hj ha
    have hij : j ≠ i := by
      rintro rfl
      have h0 := h.rng hi
      obtain ⟨m, hm⟩ := Int.eq_ofNat_of_zero_le h0.1
      rw [hm] at ha h0
      exact h.ok.irr m (by omega) ha
    unfold prv nxt
    apply Classical.byContradiction
    intro hn
    rcases Nat.lt_or_gt_of_ne hij with hlt | hgt
    · have h5 := hc.none i j
      rw [h.adj_sym hj hi] at ha
      split at hn <;> split at hn <;> exact h5 (by omega) hi (by omega) ha
    · have h5 := hc.none j i
      split at hn <;> split at hn <;> exact h5 (by omega) hj (by omega) ha
  · intro hh
    refine ⟨h, h4, fun i k hki hi hnot ha => ?_⟩
    have h1 := hh _ (h.mem (i := k) (by omega))
    rw [key k (by omega), h.two (by omega)] at h1
    have h2 := h1 i hi ha
    unfold prv nxt at h2
    split at h2 <;> split at h2 <;> omega
end
end Go.Proofs.Ythdfkpinaidkkaa
