/- Plain facts: the parts of a graph, and the sides of its vertices. -/
import Derived.Test.YtalfbldkdlanoaaDoorDistI
namespace Go.Proofs.YtalfbldkdlanoaaDoor
open Go.RowKit
theorem Ball.trans {g : List (List Int)} {s : List Int} {v x : Int} {d : Nat} (h : Ball g s v d x) : ∀ {e : Nat} {u : Int}, Ball g s x e u → Ball g s v (d + e) u := by
  intro e
  induction e with
  | zero => intro u hu; have hu : u = x := hu
            rw [hu]; exact h
  | succ e ih =>
    intro u hu
    rcases hu with h1 | ⟨h1, y, h2, h3⟩
    · exact .inl (ih h1)
    · exact .inr ⟨h1, y, ih h2, h3⟩
/-- There is a way from one to the other. -/
def Way (g : List (List Int)) (u v : Nat) : Prop := ∃ d, Ball g (allL g.length) (u : Int) d (v : Int)
theorem way_refl (g : List (List Int)) (u : Nat) : Way g u u := ⟨0, rfl⟩
theorem Way.trans {g : List (List Int)} {u v x : Nat} (h : Way g u v) (h2 : Way g v x) : Way g u x := by
  obtain ⟨d, hd⟩ := h; obtain ⟨e, he⟩ := h2
  exact ⟨d + e, hd.trans he⟩
theorem ball_sym {g : List (List Int)} (hg : GOk g) {v : Int} (hv : v ∈ allL g.length) : ∀ {d : Nat} {u : Int}, Ball g (allL g.length) v d u → Ball g (allL g.length) u d v := by
  intro d
  induction d with
  | zero => intro u hu; have hu : u = v := hu
            rw [hu]; exact (rfl : v = v)
  | succ d ih =>
    intro u hu
    rcases hu with h1 | ⟨h1, x, h2, h3⟩
    · exact (ih h1).mono (by omega)
    · have hx := ball_in hv h2
      have hxr := (allL_mem _ _).1 hx
      have hur := (allL_mem _ _).1 h1
      have h4 := (gok_sym hg hxr.1 hxr.2 hur.1 hur.2).1 h3
      have h5 : Ball g (allL g.length) u 1 x := .inr ⟨hx, u, rfl, h4⟩
      have h6 := h5.trans (ih h2)
      rwa [Nat.add_comm] at h6
theorem in_all {g : List (List Int)} {v : Nat} (hv : v < g.length) : (v : Int) ∈ allL g.length := (allL_mem _ _).2 ⟨by omega, by omega⟩
theorem Way.symm {g : List (List Int)} (hg : GOk g) {u v : Nat} (hu : u < g.length) (h : Way g u v) : Way g v u := by
  obtain ⟨d, hd⟩ := h
  exact ⟨d, ball_sym hg (in_all hu) hd⟩
theorem Way.lt {g : List (List Int)} {u v : Nat} (hu : u < g.length) (h : Way g u v) : v < g.length := by
  obtain ⟨d, hd⟩ := h
  have := (allL_mem _ _).1 (ball_in (in_all hu) hd); omega
noncomputable instance (g : List (List Int)) (u v : Nat) : Decidable (Way g u v) := Classical.propDecidable _
/-- The least vertex from which there is a way. -/
noncomputable def rootV (g : List (List Int)) (v : Nat) : Nat := ((List.range (v + 1)).find? fun u => decide (Way g u v)).getD v
theorem find_range {n : Nat} {P : Nat → Bool} : (∃ u, (List.range n).find? P = some u ∧ u < n ∧ P u = true ∧ ∀ x, x < u → P x = false) ∨ ((List.range n).find? P = none ∧ ∀ x, x < n → P x = false) := by
  induction n with
  | zero => right; exact ⟨rfl, fun x hx => by omega⟩
  | succ n ih =>
    rw [List.range_succ, List.find?_append]
    rcases ih with ⟨u, h1, h2, h3, h4⟩ | ⟨h1, h2⟩
    · left; exact ⟨u, by rw [h1]; rfl, by omega, h3, h4⟩
    · rw [h1]
      cases hp : P n with
      | true => left; exact ⟨n, by simp [hp], by omega, hp, h2⟩
      | false =>
        right
        refine ⟨by simp [hp], fun x hx => ?_⟩
        rcases Nat.lt_or_ge x n with h | h
        · exact h2 x h
        · obtain rfl : x = n := by omega
          exact hp
theorem root_spec (g : List (List Int)) (v : Nat) : Way g (rootV g v) v ∧ rootV g v ≤ v ∧ ∀ u, Way g u v → rootV g v ≤ u := by
  unfold rootV
  rcases find_range (n := v + 1) (P := fun u => decide (Way g u v)) with ⟨u, h1, h2, h3, h4⟩ | ⟨h1, h2⟩
  · rw [h1]
    refine ⟨by simpa using h3, by simp only [Option.getD_some]; omega, fun x hx => ?_⟩
    simp only [Option.getD_some]
    apply Classical.byContradiction
    intro hn
    have := h4 x (by omega)
    simp only [decide_eq_false_iff_not] at this
    exact this hx
  · have := h2 v (by omega)
    simp only [decide_eq_false_iff_not] at this
    exact absurd (way_refl g v) this
theorem root_way {g : List (List Int)} (hg : GOk g) {r v : Nat} (hr : r < g.length) (hroot : rootV g r = r) : rootV g v = r ↔ Way g r v := by
  obtain ⟨h1, h2, h3⟩ := root_spec g v
  constructor
  · intro h; rw [← h]; exact h1
  · intro h
    have h4 := h3 r h
    have hv := h.lt hr
    have h5 : Way g (rootV g v) r := h1.trans (h.symm hg hr)
    have h6 := (root_spec g r).2.2 _ h5
    omega
theorem root_idem (g : List (List Int)) (v : Nat) : rootV g (rootV g v) = rootV g v := by
  obtain ⟨h1, h2, h3⟩ := root_spec g v
  obtain ⟨h4, h5, h6⟩ := root_spec g (rootV g v)
  have := h3 _ (h4.trans h1)
  omega
/-- The roots among the first k vertices. -/
noncomputable def rootsTo (g : List (List Int)) (k : Nat) : List Nat := (List.range k).filter fun r => decide (rootV g r = r)
theorem rootsTo_succ (g : List (List Int)) (k : Nat) : rootsTo g (k + 1) = rootsTo g k ++ if rootV g k = k then [k] else [] := by
  unfold rootsTo
  rw [List.range_succ, List.filter_append]
  by_cases h : rootV g k = k
  · rw [if_pos h]; simp [h]
  · rw [if_neg h]; simp [h]
theorem rootsTo_mem {g : List (List Int)} {k r : Nat} : r ∈ rootsTo g k ↔ r < k ∧ rootV g r = r := by simp [rootsTo]
theorem rootsTo_len (g : List (List Int)) (k : Nat) : (rootsTo g k).length ≤ k := by
  have := List.length_filter_le (fun r => decide (rootV g r = r)) (List.range k)
  simpa [rootsTo] using this
theorem rootsTo_sorted (g : List (List Int)) (k : Nat) : (rootsTo g k).Pairwise (· < ·) := List.Pairwise.filter _ List.pairwise_lt_range
/-- The vertices of the part of r, the parts. -/
noncomputable def partV (g : List (List Int)) (r : Nat) : List Int := ((List.range g.length).filter fun v => decide (rootV g v = r)).map fun v : Nat => (v : Int)
noncomputable def partsV (g : List (List Int)) : List (List Int) := (rootsTo g g.length).map (partV g)
theorem partV_mem {g : List (List Int)} {r : Nat} {x : Int} : x ∈ partV g r ↔ ∃ v : Nat, v < g.length ∧ rootV g v = r ∧ x = v := by
  unfold partV
  rw [List.mem_map]
  constructor
  · rintro ⟨v, hv, rfl⟩
    rw [List.mem_filter, List.mem_range] at hv
    exact ⟨v, hv.1, by simpa using hv.2, rfl⟩
  · rintro ⟨v, h1, h2, rfl⟩
    exact ⟨v, by rw [List.mem_filter, List.mem_range]; exact ⟨h1, by simpa using h2⟩, rfl⟩
theorem partV_inc (g : List (List Int)) (r : Nat) : Inc g.length (partV g r) := by
  refine ⟨fun x hx => ?_, ?_⟩
  · obtain ⟨v, h1, _, rfl⟩ := partV_mem.1 hx
    omega
  · unfold partV
    rw [List.pairwise_map]
    exact (List.Pairwise.filter _ List.pairwise_lt_range).imp (fun h => by omega)
theorem partV_part {g : List (List Int)} (hg : GOk g) {r : Nat} (hr : r < g.length) (hroot : rootV g r = r) : partL g (allL g.length) (r : Int) = partV g r := by
  unfold partL partTo partV
  congr 1
  apply List.filter_congr
  intro u hu
  rw [List.mem_range] at hu
  have e1 : (fromL g (allL g.length) (r : Int)).getD u 0 = far g (allL g.length) (r : Int) (u : Int) := by
    unfold fromL
    rw [if_pos (in_all hr), List.getD_eq_getElem?_getD]
    unfold farL
    rw [List.getElem?_map, List.getElem?_eq_getElem (by simpa using hu)]
    simp
  rw [e1, decide_eq_decide, far_nonneg, root_way hg hr hroot]
  exact Iff.rfl
/-- The side of a vertex. -/
noncomputable def sideV (g : List (List Int)) (v : Nat) : Int := far g (allL g.length) (rootV g v : Nat) (v : Int) % 2
noncomputable def sideTo (g : List (List Int)) (k : Nat) : List Int := (List.range k).map (sideV g)
theorem sideV_01 {g : List (List Int)} {v : Nat} : sideV g v = 0 ∨ sideV g v = 1 := by unfold sideV; omega
def Halves (g : List (List Int)) : Prop := ∀ u : Nat, u < g.length → ∀ v : Nat, (v : Int) ∈ row g (u : Int) → sideV g u ≠ sideV g v
noncomputable instance (g : List (List Int)) : Decidable (Halves g) := Classical.propDecidable _
def SidesP (g : List (List Int)) : Prop := GOk g ∧ Halves g
noncomputable instance (g : List (List Int)) : Decidable (SidesP g) := Classical.propDecidable _
noncomputable def sidesL (g : List (List Int)) : List Int := if SidesP g then sideTo g g.length else []
noncomputable def sidesB (g : List (List Int)) : Bool := decide (SidesP g)
/-- Within a part's bounds nothing is shut out. -/
theorem ball_part {g : List (List Int)} (hg : GOk g) {r T : Nat} (hr : r < g.length) (hroot : rootV g r = r) (hT : ∀ u, T.testBit u = true → u < g.length) (hin : ∀ u, u < g.length → rootV g u = r → T.testBit u = true) :
    ∀ (d u : Nat), BallA (g.map maskL) T r d u ↔ Ball g (allL g.length) (r : Int) d (u : Int) := by
  have hs := setP_all hg
  have hall := allL_mask g.length
  intro d u
  rw [← ball_iff hs (in_all hr) d u, hall]
  revert u
  induction d with
  | zero => intro u; exact Iff.rfl
  | succ d ih =>
    intro u
    constructor
    · rintro (h | ⟨h1, x, h2, h3⟩)
      · exact .inl ((ih u).1 h)
      · exact .inr ⟨by rw [Nat.testBit_two_pow_sub_one]; simpa using hT u h1, x, (ih x).1 h2, h3⟩
    · intro h
      have hw : Way g r u := ⟨d + 1, (ball_iff hs (in_all hr) (d + 1) u).1 (by rw [hall]; exact h)⟩
      rcases h with h | ⟨h1, x, h2, h3⟩
      · exact .inl ((ih u).2 h)
      · exact .inr ⟨hin u (hw.lt hr) ((root_way hg hr hroot).2 hw), x, (ih x).2 h2, h3⟩
theorem leads_part {g : List (List Int)} (hg : GOk g) {r T : Nat} (hr : r < g.length) (hroot : rootV g r = r) (hT : ∀ u, T.testBit u = true → u < g.length) (hin : ∀ u, u < g.length → rootV g u = r → T.testBit u = true) (u : Nat) :
    Leads (g.map maskL) T r u ↔ u < g.length ∧ rootV g u = r := by
  constructor
  · rintro ⟨d, hd⟩
    have hw : Way g r u := ⟨d, (ball_part hg hr hroot hT hin d u).1 hd⟩
    exact ⟨hw.lt hr, (root_way hg hr hroot).2 hw⟩
  · rintro ⟨h1, h2⟩
    obtain ⟨d, hd⟩ := (root_way hg hr hroot).1 h2
    exact ⟨d, (ball_part hg hr hroot hT hin d u).2 hd⟩
theorem dist_part {g : List (List Int)} (hg : GOk g) {r T : Nat} (hr : r < g.length) (hroot : rootV g r = r) (hT : ∀ u, T.testBit u = true → u < g.length) (hin : ∀ u, u < g.length → rootV g u = r → T.testBit u = true) {x : Int} {u : Nat}
    (h : (∃ d : Nat, x = d ∧ DistA (g.map maskL) T r u d) ∨ (x = -1 ∧ ¬ Leads (g.map maskL) T r u)) : x = far g (allL g.length) (r : Int) (u : Int) := by
  rcases h with ⟨d, rfl, h2, h3⟩ | ⟨rfl, h2⟩
  · rw [far_eq ((ball_part hg hr hroot hT hin d u).1 h2) (fun e he => by
      apply Classical.byContradiction
      intro hn
      exact h3 e (by omega) ((ball_part hg hr hroot hT hin e u).2 he))]
  · rw [far_none]
    rintro ⟨d, hd⟩
    exact h2 ⟨d, (ball_part hg hr hroot hT hin d u).2 hd⟩
end Go.Proofs.YtalfbldkdlanoaaDoor
