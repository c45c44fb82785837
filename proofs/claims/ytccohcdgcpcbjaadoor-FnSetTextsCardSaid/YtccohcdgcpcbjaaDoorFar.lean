/- Plain facts: distances, and what a search in breadth knows. · Distances: the reference's search. · The part of a set in which a vertex is: the reference's; connected sets. -/
import Derived.Test.YtccohcdgcpcbjaaDoorMask
import Derived.Test.YtccohcdgcpcbjaaDoorSetOk
import Derived.Test.YtccohcdgcpcbjaaDoorEdges
import Derived.Test.YtccohcdgcpcbjaaDoorCode2
import Derived.Test.YtccohcdgcpcbjaaDoorMem3
import Derived.Deep.RegionWith
import Derived.StillTailTactics
namespace Go.Proofs.YtccohcdgcpcbjaaDoor
open Go.RowKit
section
/-- Within d steps of v, by members of a set alone. -/
def Ball (g : List (List Int)) (ins : List Int) (v : Int) : Nat → Int → Prop
  | 0, u => u = v
  | d + 1, u => Ball g ins v d u ∨ (u ∈ ins ∧ ∃ x, Ball g ins v d x ∧ u ∈ row g x)
theorem Ball.mono {g : List (List Int)} {ins : List Int} {v u : Int} {d e : Nat} (h : Ball g ins v d u) (hde : d ≤ e) : Ball g ins v e u := by
  induction e with
  | zero => obtain rfl : d = 0 := by omega
            exact h
  | succ e ih =>
    rcases Nat.eq_or_lt_of_le hde with rfl | h1
    · exact h
    · exact .inl (ih (by omega))
theorem exists_least {P : Nat → Prop} (h : ∃ d, P d) : ∃ d, P d ∧ ∀ e, e < d → ¬ P e := by
  apply Classical.byContradiction
  intro hn
  have key : ∀ n, ∀ m, m ≤ n → ¬ P m := by
    intro n
    induction n with
    | zero => intro m hm hp; exact hn ⟨m, hp, fun e he => by omega⟩
    | succ n ih =>
      intro m hm hp
      exact hn ⟨m, hp, fun e he => ih e (by omega)⟩
  obtain ⟨d, hd⟩ := h
  exact key d d (Nat.le_refl _) hd
open Classical in
/-- The distance; -1 where there is no way. -/
noncomputable def far (g : List (List Int)) (ins : List Int) (v u : Int) : Int := if h : ∃ d, Ball g ins v d u then ((Classical.choose (exists_least h) : Nat) : Int) else -1
theorem far_none {g : List (List Int)} {ins : List Int} {v u : Int} (h : ¬ ∃ d, Ball g ins v d u) : far g ins v u = -1 := by unfold far; rw [dif_neg h]
theorem far_spec {g : List (List Int)} {ins : List Int} {v u : Int} (h : ∃ d, Ball g ins v d u) : ∃ d : Nat, far g ins v u = d ∧ Ball g ins v d u ∧ ∀ e, e < d → ¬ Ball g ins v e u := by
  unfold far; rw [dif_pos h]
  exact ⟨_, rfl, (Classical.choose_spec (exists_least h)).1, (Classical.choose_spec (exists_least h)).2⟩
theorem far_eq {g : List (List Int)} {ins : List Int} {v u : Int} {d : Nat} (h1 : Ball g ins v d u) (h2 : ∀ e, Ball g ins v e u → d ≤ e) : far g ins v u = d := by
  obtain ⟨e, h3, h4, h5⟩ := far_spec ⟨d, h1⟩
  have h6 := h2 e h4
  have : e = d := by
    apply Classical.byContradiction
    intro hne
    exact h5 d (by omega) h1
  rw [h3, this]
theorem far_nonneg {g : List (List Int)} {ins : List Int} {v u : Int} : 0 ≤ far g ins v u ↔ ∃ d, Ball g ins v d u := by
  constructor
  · intro h
    apply Classical.byContradiction
    intro hn
    rw [far_none hn] at h; omega
  · intro h
    obtain ⟨d, h1, _⟩ := far_spec h
    omega
/-- The distances of all vertices. -/
noncomputable def farL (g : List (List Int)) (ins : List Int) (v : Int) : List Int := (List.range g.length).map fun u : Nat => far g ins v u
theorem farL_len (g : List (List Int)) (ins : List Int) (v : Int) : (farL g ins v).length = g.length := by simp [farL]
/-- What the search knows ahead of its i-th turn: distances D, the queue M. -/
structure Bfs (g : List (List Int)) (ins : List Int) (v : Int) (D : List Int) (M : List Int) (i : Nat) : Prop where
  len : D.length = g.length
  first : M.getD 0 0 = v ∧ 0 < M.length
  zero : D.getD v.toNat 0 = 0
  lim : ∀ u ∈ M, D.getD u.toNat 0 < M.length
  rng : ∀ u ∈ M, 0 ≤ u ∧ u < g.length
  nod : M.Nodup
  neg : ∀ u : Nat, u < g.length → (u : Int) ∉ M → D.getD u 0 = -1
  pos : ∀ u ∈ M, 0 ≤ D.getD u.toNat 0 ∧ Ball g ins v (D.getD u.toNat 0).toNat u
  sort : ∀ j k, j < k → k < M.length → D.getD (M.getD j 0).toNat 0 ≤ D.getD (M.getD k 0).toNat 0
  near : ∀ k, k < M.length → i < M.length → D.getD (M.getD k 0).toNat 0 ≤ D.getD (M.getD i 0).toNat 0 + 1
  done : ∀ j, j < i → j < M.length → ∀ y ∈ row g (M.getD j 0), y ∈ ins → y ∈ M ∧ D.getD y.toNat 0 ≤ D.getD (M.getD j 0).toNat 0 + 1
/-- .. and ahead of the k-th neighbour of the i-th. -/
structure BfsIn (g : List (List Int)) (ins : List Int) (v : Int) (D : List Int) (M : List Int) (i k : Nat) : Prop extends Bfs g ins v D M i where
  lt : i < M.length
  part : ∀ q, q < k → (row g (M.getD i 0)).getD q 0 ∈ ins → (row g (M.getD i 0)).getD q 0 ∈ M ∧ D.getD ((row g (M.getD i 0)).getD q 0).toNat 0 ≤ D.getD (M.getD i 0).toNat 0 + 1
section
variable {g : List (List Int)} {ins : List Int} {v : Int} {D M : List Int} {i k : Nat}
theorem Bfs.start (_hg : GOk g) (hv : 0 ≤ v ∧ v < g.length) : Bfs g ins v ((List.replicate g.length (-1)).set v.toNat 0) [v] 0 := by
  have hvn : v.toNat < g.length := by omega
  have get : ∀ u : Nat, u < g.length → ((List.replicate g.length (-1 : Int)).set v.toNat 0).getD u 0 = if v.toNat = u then 0 else -1 := by
    intro u hu
    rw [getD_eq _ u (by simpa using hu), List.getElem_set]
    simp
  refine ⟨by simp, ⟨rfl, by simp⟩, by rw [get _ hvn, if_pos rfl], ?_, ?_, by simp, ?_, ?_, ?_, ?_, ?_⟩
  · intro u hu; simp at hu; subst hu; rw [get _ hvn, if_pos rfl]; simp
  · intro u hu; simp at hu; subst hu; exact hv
  · intro u hu hn
    rw [get u hu, if_neg]
    intro e; apply hn; simp; omega
  · intro u hu
    simp at hu; subst hu
    rw [get _ hvn, if_pos rfl]
    exact ⟨Int.le_refl 0, rfl⟩
  · intro j k h1 h2; simp at h2; omega
  · intro k hk _; simp at hk; subst hk; omega
  · intro j hj; omega
/-- The turn begins. -/
theorem Bfs.enter (h : Bfs g ins v D M i) (hi : i < M.length) : BfsIn g ins v D M i 0 := ⟨h, hi, fun q hq => absurd hq (Nat.not_lt_zero q)⟩
/-- A neighbour that is known, or is outside. -/
theorem BfsIn.skip (h : BfsIn g ins v D M i k) (hs : (row g (M.getD i 0)).getD k 0 ∈ ins → (row g (M.getD i 0)).getD k 0 ∈ M) : BfsIn g ins v D M i (k + 1) := by
  refine ⟨h.toBfs, h.lt, fun q hq hin => ?_⟩
  rcases Nat.lt_succ_iff_lt_or_eq.1 hq with h1 | rfl
  · exact h.part q h1 hin
  · have hm := hs hin
    refine ⟨hm, ?_⟩
    obtain ⟨p, hp, e⟩ := List.mem_iff_getElem.1 hm
    have := h.near p hp h.lt
    rwa [getD_eq M p hp, e] at this
theorem getD_set (D : List Int) (a b : Nat) (x : Int) (hb : b < D.length) : (D.set a x).getD b 0 = if a = b then x else D.getD b 0 := by
  rw [getD_eq _ b (by simpa using hb), List.getElem_set, getD_eq D b hb]
theorem getD_snoc (M : List Int) (y : Int) (k : Nat) (h : k ≤ M.length) : (M ++ [y]).getD k 0 = if k < M.length then M.getD k 0 else y := by
  rw [getD_eq _ k (by simp; omega), List.getElem_append]
  split
  · rename_i h1; rw [getD_eq M k h1]
  · simp
/-- A neighbour that is new. -/
theorem BfsIn.take (hg : GOk g) (h : BfsIn g ins v D M i k) (hk : k < (row g (M.getD i 0)).length) (hin : (row g (M.getD i 0)).getD k 0 ∈ ins) (hn : (row g (M.getD i 0)).getD k 0 ∉ M) :
    BfsIn g ins v (D.set ((row g (M.getD i 0)).getD k 0).toNat (D.getD (M.getD i 0).toNat 0 + 1)) (M ++ [(row g (M.getD i 0)).getD k 0]) i (k + 1) := by
  have hxM : M.getD i 0 ∈ M := by rw [getD_eq M i h.lt]; exact List.getElem_mem h.lt
  have hxr := h.rng _ hxM
  have hyr : 0 ≤ (row g (M.getD i 0)).getD k 0 ∧ (row g (M.getD i 0)).getD k 0 < g.length := by
    have := gok_range hg hxr.1 hxr.2 (v := (row g (M.getD i 0)).getD k 0) (by rw [getD_eq _ k hk]; exact List.getElem_mem hk)
    exact this
  have hyx : (row g (M.getD i 0)).getD k 0 ∈ row g (M.getD i 0) := by rw [getD_eq _ k hk]; exact List.getElem_mem hk
  have hiM : i < (M ++ [(row g (M.getD i 0)).getD k 0]).length := by have := h.lt; simp; omega
  have eI : (M ++ [(row g (M.getD i 0)).getD k 0]).getD i 0 = M.getD i 0 := by rw [getD_snoc _ _ _ (by have := h.lt; omega), if_pos h.lt]
  have part0 := h.part
  have near0 := h.near
  have done0 := h.done
  generalize hx : M.getD i 0 = x at *
  generalize hy : (row g x).getD k 0 = y at *
  have hDl := h.len
  have set_other : ∀ u : Int, 0 ≤ u → u < g.length → u ≠ y → (D.set y.toNat (D.getD x.toNat 0 + 1)).getD u.toNat 0 = D.getD u.toNat 0 := by
    intro u h0 h1 hne
    rw [getD_set _ _ _ _ (by omega), if_neg (by omega)]
  have set_y : (D.set y.toNat (D.getD x.toNat 0 + 1)).getD y.toNat 0 = D.getD x.toNat 0 + 1 := by
    rw [getD_set _ _ _ _ (by omega), if_pos rfl]
  have inM : ∀ u ∈ M, (D.set y.toNat (D.getD x.toNat 0 + 1)).getD u.toNat 0 = D.getD u.toNat 0 := fun u hu => set_other u (h.rng u hu).1 (h.rng u hu).2 (fun e => hn (e ▸ hu))
  have memM : ∀ p, p < M.length → M.getD p 0 ∈ M := fun p hp => by rw [getD_eq M p hp]; exact List.getElem_mem hp
  have eX : (D.set y.toNat (D.getD x.toNat 0 + 1)).getD x.toNat 0 = D.getD x.toNat 0 := inM x hxM
  have getM : ∀ p, p < M.length → (M ++ [y]).getD p 0 = M.getD p 0 := fun p hp => by rw [getD_snoc _ _ _ (by omega), if_pos hp]
  have getL : (M ++ [y]).getD M.length 0 = y := by rw [getD_snoc _ _ _ (Nat.le_refl _), if_neg (Nat.lt_irrefl _)]
  refine ⟨⟨by simpa using hDl, ?_, ?_, ?_, ?_, ?_, ?_, ?_, ?_, ?_, ?_⟩, hiM, ?_⟩
  · have := h.first
    exact ⟨by rw [getM 0 this.2]; exact this.1, by simp⟩
  · have hvM : v ∈ M := by rw [← h.first.1]; exact memM 0 h.first.2
    rw [inM v hvM]; exact h.zero
  · intro u hu
    rw [List.length_append, List.length_singleton]
    rcases List.mem_append.1 hu with h1 | h1
    · rw [inM u h1]; have := h.lim u h1; omega
    · simp at h1; subst h1
      rw [set_y]; have := h.lim x hxM; omega
  · intro u hu
    rcases List.mem_append.1 hu with h1 | h1
    · exact h.rng u h1
    · simp at h1; subst h1; exact hyr
  · rw [List.nodup_append]
    refine ⟨h.nod, by simp, ?_⟩
    intro a ha b hb e
    simp at hb; subst hb; subst e; exact hn ha
  · intro u hu hm
    have h1 : (u : Int) ∉ M := fun h1 => hm (List.mem_append.2 (.inl h1))
    have h2 : (u : Int) ≠ y := fun e => hm (by rw [e]; simp)
    have := set_other (u : Int) (by omega) (by omega) h2
    rw [Int.toNat_natCast] at this
    rw [this]; exact h.neg u hu h1
  · intro u hu
    rcases List.mem_append.1 hu with h1 | h1
    · rw [inM u h1]; exact h.pos u h1
    · simp at h1; subst h1
      have hp := h.pos x hxM
      rw [set_y]
      refine ⟨by omega, ?_⟩
      have e : (D.getD x.toNat 0 + 1).toNat = (D.getD x.toNat 0).toNat + 1 := by omega
      rw [e]
      exact .inr ⟨hin, x, hp.2, hyx⟩
  · intro j q hjq hq
    rw [List.length_append, List.length_singleton] at hq
    have hj : j < M.length := by omega
    rw [getM j hj, inM _ (memM j hj)]
    rcases Nat.lt_succ_iff_lt_or_eq.1 hq with h1 | rfl
    · rw [getM q h1, inM _ (memM q h1)]; exact h.sort j q hjq h1
    · rw [getL, set_y]; exact near0 j hj h.lt
  · intro q hq _
    rw [eI, eX]
    rw [List.length_append, List.length_singleton] at hq
    rcases Nat.lt_succ_iff_lt_or_eq.1 hq with h1 | rfl
    · rw [getM q h1, inM _ (memM q h1)]; exact near0 q h1 h.lt
    · rw [getL, set_y]; omega
  · intro j hj hjl z hz hzin
    have hjM : j < M.length := by have := h.lt; omega
    rw [getM j hjM] at hz ⊢
    rw [inM _ (memM j hjM)]
    obtain ⟨h1, h2⟩ := done0 j hj hjM z hz hzin
    exact ⟨List.mem_append.2 (.inl h1), by rw [inM z h1]; exact h2⟩
  · intro q hq hqin
    rw [eI] at hqin ⊢
    rw [eX]
    rcases Nat.lt_succ_iff_lt_or_eq.1 hq with h1 | rfl
    · obtain ⟨h2, h3⟩ := part0 q h1 hqin
      exact ⟨List.mem_append.2 (.inl h2), by rw [inM _ h2]; exact h3⟩
    · rw [hy, set_y]; exact ⟨by simp, by omega⟩
/-- The turn has ended. -/
theorem BfsIn.leave (h : BfsIn g ins v D M i k) (hk : k = (row g (M.getD i 0)).length) : Bfs g ins v D M (i + 1) := by
  refine ⟨h.len, h.first, h.zero, h.lim, h.rng, h.nod, h.neg, h.pos, h.sort, ?_, ?_⟩
  · intro q hq hi
    have h1 := h.near q hq h.lt
    have h2 := h.sort i (i + 1) (by omega) hi
    omega
  · intro j hj hjl y hy hin
    rcases Nat.lt_succ_iff_lt_or_eq.1 hj with h1 | rfl
    · exact h.done j h1 hjl y hy hin
    · obtain ⟨q, hq, rfl⟩ := List.mem_iff_getElem.1 hy
      have := h.part q (by omega) (by rw [getD_eq _ q hq]; exact hin)
      rwa [getD_eq _ q hq] at this
/-- The search has ended: the distances. -/
theorem Bfs.final (h : Bfs g ins v D M M.length) : D = farL g ins v := by
  have clo : ∀ d u, Ball g ins v d u → u ∈ M ∧ D.getD u.toNat 0 ≤ d := by
    intro d
    induction d with
    | zero =>
      intro u hu
      have e : u = v := hu
      subst e
      have hm : u ∈ M := by rw [← h.first.1, getD_eq M 0 h.first.2]; exact List.getElem_mem h.first.2
      refine ⟨hm, ?_⟩
      rw [h.zero]; exact Int.le_refl 0
    | succ d ih =>
      intro u hu
      rcases hu with h1 | ⟨hin, x, hx, hux⟩
      · obtain ⟨h2, h3⟩ := ih u h1
        exact ⟨h2, by omega⟩
      · obtain ⟨h2, h3⟩ := ih x hx
        obtain ⟨p, hp, e⟩ := List.mem_iff_getElem.1 h2
        have := h.done p hp hp u (by rw [getD_eq M p hp, e]; exact hux) hin
        rw [getD_eq M p hp, e] at this
        exact ⟨this.1, by omega⟩
  apply List.ext_getElem (by rw [h.len, farL_len])
  intro u hu hu'
  have hug : u < g.length := by rw [← h.len]; exact hu
  have e1 : (farL g ins v)[u] = far g ins v (u : Int) := by simp [farL]
  rw [e1, ← getD_eq D u hu]
  by_cases hm : (u : Int) ∈ M
  · have hp := h.pos _ hm
    rw [Int.toNat_natCast] at hp
    have := far_eq hp.2 (fun e he => by
      have := (clo e _ he).2
      rw [Int.toNat_natCast] at this
      omega)
    rw [this]; omega
  · rw [h.neg u hug hm, far_none]
    rintro ⟨d, hd⟩
    exact hm (clo d _ hd).1
theorem Bfs.few (h : Bfs g ins v D M i) : M.length ≤ g.length := nodup_le M g.length h.nod h.rng
theorem Bfs.known (h : Bfs g ins v D M i) {u : Nat} (hu : u < g.length) : ((u : Int) ∈ M ∧ 0 ≤ D.getD u 0) ∨ ((u : Int) ∉ M ∧ D.getD u 0 = -1) := by
  by_cases hm : (u : Int) ∈ M
  · have := (h.pos _ hm).1
    rw [Int.toNat_natCast] at this
    exact .inl ⟨hm, this⟩
  · exact .inr ⟨hm, h.neg u hu hm⟩
end
end
section
noncomputable def fromL (g : List (List Int)) (ins : List Int) (v : Int) : List Int := if v ∈ ins then farL g ins v else List.replicate g.length (-1)
end
section
/-- Whom a vertex leads to, in order. -/
noncomputable def partTo (g : List (List Int)) (ins : List Int) (v : Int) (k : Nat) : List Int := ((List.range k).filter fun u => decide (0 ≤ (fromL g ins v).getD u 0)).map fun u : Nat => (u : Int)
theorem partTo_succ (g : List (List Int)) (ins : List Int) (v : Int) (k : Nat) : partTo g ins v (k + 1) = partTo g ins v k ++ if 0 ≤ (fromL g ins v).getD k 0 then [(k : Int)] else [] := by
  unfold partTo
  rw [List.range_succ, List.filter_append, List.map_append]
  by_cases h : 0 ≤ (fromL g ins v).getD k 0
  · rw [if_pos h, List.filter_cons_of_pos (by rw [decide_eq_true_iff]; exact h)]; rfl
  · rw [if_neg h, List.filter_cons_of_neg (by rw [decide_eq_true_iff]; exact h)]; rfl
theorem partTo_len (g : List (List Int)) (ins : List Int) (v : Int) (k : Nat) : (partTo g ins v k).length ≤ k := by
  have := List.length_filter_le (fun u => decide (0 ≤ (fromL g ins v).getD u 0)) (List.range k)
  simpa [partTo] using this
theorem fromL_len (g : List (List Int)) (ins : List Int) (v : Int) : (fromL g ins v).length = g.length := by
  unfold fromL; split
  · exact farL_len _ _ _
  · simp
noncomputable def partL (g : List (List Int)) (ins : List Int) (v : Int) : List Int := partTo g ins v g.length
/-- A set that is not empty, all of which its first member leads to. -/
def ConnP (g : List (List Int)) (s : List Int) : Prop := s ≠ [] ∧ ∀ u ∈ s, ∃ d, Ball g s (s.getD 0 0) d u
noncomputable instance (g : List (List Int)) (s : List Int) : Decidable (ConnP g s) := Classical.propDecidable _
theorem ball_in {g : List (List Int)} {s : List Int} {v : Int} (hv : v ∈ s) {d : Nat} {u : Int} (h : Ball g s v d u) : u ∈ s := by
  induction d generalizing u with
  | zero => have e : u = v := h
            rw [e]; exact hv
  | succ d ih =>
    rcases h with h1 | ⟨h1, _⟩
    · exact ih h1
    · exact h1
/-- As many as the set has: all. -/
theorem conn_len {g : List (List Int)} {s : List Int} (hs : SetP g s) (h0 : s ≠ []) : (partL g s (s.getD 0 0)).length = s.length ↔ ConnP g s := by
  have hpos : 0 < s.length := List.length_pos_iff.2 h0
  have hv : s.getD 0 0 ∈ s := by rw [getD_eq s 0 hpos]; exact List.getElem_mem hpos
  generalize hv0 : s.getD 0 0 = v at *
  have hF : fromL g s v = farL g s v := by unfold fromL; rw [if_pos hv]
  have hmem : ∀ x, x ∈ partL g s v ↔ ∃ u : Nat, x = u ∧ u < g.length ∧ ∃ d, Ball g s v d (u : Int) := by
    intro x
    unfold partL partTo
    rw [List.mem_map]
    constructor
    · rintro ⟨u, hu, rfl⟩
      rw [List.mem_filter, List.mem_range, decide_eq_true_iff, hF] at hu
      refine ⟨u, rfl, hu.1, ?_⟩
      have h1 := hu.2
      rw [getD_eq _ u (by rw [farL_len]; exact hu.1)] at h1
      have e : (farL g s v)[u]'(by rw [farL_len]; exact hu.1) = far g s v (u : Int) := by simp [farL]
      rw [e] at h1
      exact far_nonneg.1 h1
    · rintro ⟨u, rfl, hu, hd⟩
      refine ⟨u, ?_, rfl⟩
      rw [List.mem_filter, List.mem_range, decide_eq_true_iff, hF]
      refine ⟨hu, ?_⟩
      rw [getD_eq _ u (by rw [farL_len]; exact hu)]
      have e : (farL g s v)[u]'(by rw [farL_len]; exact hu) = far g s v (u : Int) := by simp [farL]
      rw [e]
      exact far_nonneg.2 hd
  have hnd : (partL g s v).Nodup := by
    unfold partL partTo
    rw [List.Nodup, List.pairwise_map]
    refine List.Pairwise.imp ?_ (List.nodup_range.filter _)
    intro a b hab e; exact hab (by omega)
  have hsd : s.Nodup := List.Pairwise.imp (fun h => by omega) hs.2.2
  have hsub : partL g s v ⊆ s := fun x hx => by
    obtain ⟨u, rfl, _, d, hd⟩ := (hmem x).1 hx
    exact ball_in hv hd
  constructor
  · intro hl
    refine ⟨h0, fun u hu => ?_⟩
    rw [hv0]
    apply Classical.byContradiction
    intro hn
    have hu0 := hs.2.1 u hu
    obtain ⟨m, rfl⟩ := Int.eq_ofNat_of_zero_le hu0.1
    have hnp : (m : Int) ∉ partL g s v := fun h => by
      obtain ⟨k, e, _, hd⟩ := (hmem _).1 h
      rw [e] at hn; exact hn hd
    have hsub2 : partL g s v ⊆ s.erase (m : Int) := fun x hx => by
      rw [List.mem_erase_of_ne (fun e => hnp (by rw [← e]; exact hx))]
      exact hsub hx
    have h1 := hnd.length_le_of_subset hsub2
    rw [List.length_erase_of_mem hu] at h1
    omega
  · intro h
    have h1 := hnd.length_le_of_subset hsub
    have h2 := hsd.length_le_of_subset (l₂ := partL g s v) (fun x hx => by
      have hx0 := hs.2.1 x hx
      obtain ⟨m, rfl⟩ := Int.eq_ofNat_of_zero_le hx0.1
      have := h.2 _ hx
      rw [hv0] at this
      exact (hmem _).2 ⟨m, rfl, by omega, this⟩)
    omega
end
end Go.Proofs.YtccohcdgcpcbjaaDoor
