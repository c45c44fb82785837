/- The longest list that begins with a vertex: plain. -/
import Derived.Test.YtdncmloajajiaaaDoorElimM
import Derived.Test.YtdncmloajajiaaaDoorGone
import Derived.Test.YtdncmloajajiaaaDoorTrans
namespace Go.Proofs.YtdncmloajajiaaaDoor
open Go.RowKit
/-- The longer one of two, the first where they are as long. -/
def lgr (b x : List Nat) : List Nat := if b.length < x.length then x else b
def bestOf (ls : List (List Nat)) : List Nat := ls.foldl lgr []
theorem bestOf_nil : bestOf [] = [] := rfl
theorem bestOf_snoc (ls : List (List Nat)) (x : List Nat) : bestOf (ls ++ [x]) = lgr (bestOf ls) x := by simp [bestOf]
theorem bestOf_mem (ls : List (List Nat)) : bestOf ls = [] ∨ bestOf ls ∈ ls := by
  have h : ∀ (ls : List (List Nat)) (b : List Nat), ls.foldl lgr b = b ∨ ls.foldl lgr b ∈ ls := by
    intro ls
    induction ls with
    | nil => intro b; exact .inl rfl
    | cons x ls ih =>
      intro b
      rw [List.foldl_cons]
      rcases ih (lgr b x) with h | h
      · rw [h]
        unfold lgr
        split
        · exact .inr List.mem_cons_self
        · exact .inl rfl
      · exact .inr (List.mem_cons_of_mem _ h)
  exact h ls []
theorem bestOf_ge {ls : List (List Nat)} {x : List Nat} (hx : x ∈ ls) : x.length ≤ (bestOf ls).length := by
  have h : ∀ (ls : List (List Nat)) (b : List Nat), b.length ≤ (ls.foldl lgr b).length ∧ ∀ x ∈ ls, x.length ≤ (ls.foldl lgr b).length := by
    intro ls
    induction ls with
    | nil => intro b; exact ⟨Nat.le_refl _, fun x hx => by cases hx⟩
    | cons y ls ih =>
      intro b
      rw [List.foldl_cons]
      have h1 := ih (lgr b y)
      have h2 : b.length ≤ (lgr b y).length ∧ y.length ≤ (lgr b y).length := by
        unfold lgr; split <;> omega
      refine ⟨by omega, fun x hx => ?_⟩
      rcases List.mem_cons.1 hx with rfl | hx
      · omega
      · exact h1.2 x hx
  exact (h ls []).2 x hx
/-- The sets of followers. -/
structure Dag (n : Nat) (F : List Nat) : Prop where
  len : F.length = n
  le : n ≤ 16
  lt : ∀ v, F.getD v 0 < 2 ^ n
  irr : ∀ v, bt F v v = false
  tr : ∀ v u x, bt F v u = true → bt F u x = true → bt F v x = true
def rkN (F : List Nat) (v : Nat) : Nat := (memsN (F.getD v 0)).length
theorem Dag.lt32 {n : Nat} {F : List Nat} (h : Dag n F) (v : Nat) : F.getD v 0 < 65536 :=
  Nat.lt_of_lt_of_le (h.lt v) (Nat.pow_le_pow_right (n := 2) (i := n) (j := 16) (by decide) h.le)
theorem memsN_mono {a b : Nat} (h : ∀ i, a.testBit i = true → b.testBit i = true) : (memsN a).length ≤ (memsN b).length := by
  unfold memsN
  rw [← List.countP_eq_length_filter, ← List.countP_eq_length_filter]
  exact List.countP_mono_left fun i _ hi => h i hi
theorem Dag.rk {n : Nat} {F : List Nat} (h : Dag n F) {v u : Nat} (hb : bt F v u = true) : rkN F u < rkN F v := by
  have h1 := memsN_dif (S := F.getD v 0) (b := u) (by have := h.lt32 v; omega) hb
  have h2 : (memsN (F.getD u 0)).length ≤ (memsN (dif (F.getD v 0) (2 ^ u))).length := by
    apply memsN_mono
    intro i hi
    rw [testBit_dif, Nat.testBit_two_pow]
    have h3 : bt F u i = true := hi
    have h4 : bt F v i = true := h.tr v u i hb h3
    have hne : u ≠ i := by
      rintro rfl
      rw [h.irr] at h3; cases h3
    have h5 : (F.getD v 0).testBit i = true := h4
    rw [h5, Bool.true_and]
    simp [hne]
  unfold rkN
  omega
theorem Dag.rk16 {n : Nat} {F : List Nat} (h : Dag n F) (v : Nat) : rkN F v ≤ n := by
  unfold rkN
  rw [← mems_lenN]
  have h1 := inc_length (n := (n : Int)) (s := mems (F.getD v 0)) (by
    refine ⟨?_, mems_sorted _⟩
    intro x hx
    obtain ⟨i, rfl, hi⟩ := (mems_mem (by have := h.lt32 v; omega)).1 hx
    have := bit_under (h.lt v) hi
    omega) (by omega)
  omega
def longF (F : List Nat) : Nat → Nat → List Nat
  | 0, v => [v]
  | k + 1, v => v :: bestOf ((memsN (F.getD v 0)).map (longF F k))
theorem longF_succ {n : Nat} {F : List Nat} (h : Dag n F) : ∀ k v, rkN F v ≤ k → longF F k v = longF F (k + 1) v := by
  intro k
  induction k with
  | zero =>
    intro v hv
    have h0 : memsN (F.getD v 0) = [] := List.eq_nil_of_length_eq_zero (by unfold rkN at hv; omega)
    show [v] = v :: bestOf ((memsN (F.getD v 0)).map (longF F 0))
    rw [h0]; rfl
  | succ k ih =>
    intro v hv
    show v :: bestOf ((memsN (F.getD v 0)).map (longF F k)) = v :: bestOf ((memsN (F.getD v 0)).map (longF F (k + 1)))
    have : (memsN (F.getD v 0)).map (longF F k) = (memsN (F.getD v 0)).map (longF F (k + 1)) := by
      apply List.map_congr_left
      intro u hu
      have hb : bt F v u = true := (memsN_mem (by have := h.lt32 v; omega)).1 hu
      exact ih u (by have := h.rk hb; omega)
    rw [this]
/-- The longest list from a vertex on. -/
def longN (F : List Nat) (v : Nat) : List Nat := longF F 16 v
theorem longN_eq {n : Nat} {F : List Nat} (h : Dag n F) (v : Nat) : longN F v = v :: bestOf ((memsN (F.getD v 0)).map (longN F)) := by
  show v :: bestOf ((memsN (F.getD v 0)).map (longF F 15)) = v :: bestOf ((memsN (F.getD v 0)).map (longF F 16))
  have : (memsN (F.getD v 0)).map (longF F 15) = (memsN (F.getD v 0)).map (longF F 16) := by
    apply List.map_congr_left
    intro u hu
    have hb : bt F v u = true := (memsN_mem (by have := h.lt32 v; omega)).1 hu
    have h1 := h.rk hb
    have h2 := h.rk16 v
    have h3 := h.le
    exact longF_succ h 15 u (by omega)
  rw [this]
theorem longN_head {n : Nat} {F : List Nat} (h : Dag n F) (v : Nat) : ∃ t, longN F v = v :: t := ⟨_, longN_eq h v⟩
/-- The best of the first k followers. -/
def bestK (F : List Nat) (v k : Nat) : List Nat := bestOf (((memsN (F.getD v 0)).take k).map (longN F))
theorem bestK_zero (F : List Nat) (v : Nat) : bestK F v 0 = [] := rfl
theorem bestK_succ (F : List Nat) (v k : Nat) (hk : k < (memsN (F.getD v 0)).length) : bestK F v (k + 1) = lgr (bestK F v k) (longN F (memsN (F.getD v 0))[k]) := by
  unfold bestK
  rw [List.take_succ_eq_append_getElem hk, List.map_append, List.map_singleton, bestOf_snoc]
theorem bestK_all {n : Nat} {F : List Nat} (h : Dag n F) (v : Nat) : v :: bestK F v (memsN (F.getD v 0)).length = longN F v := by
  rw [longN_eq h v]; unfold bestK; rw [List.take_length]
/-- The lists are as short as the graph. -/
theorem longN_len {n : Nat} {F : List Nat} (h : Dag n F) : ∀ k v, rkN F v ≤ k → (longN F v).length ≤ rkN F v + 1 := by
  intro k
  induction k with
  | zero =>
    intro v hv
    have h0 : memsN (F.getD v 0) = [] := List.eq_nil_of_length_eq_zero (by unfold rkN at hv; omega)
    rw [longN_eq h v, h0]
    simp [bestOf]
  | succ k ih =>
    intro v hv
    rw [longN_eq h v, List.length_cons]
    rcases bestOf_mem ((memsN (F.getD v 0)).map (longN F)) with h1 | h1
    · rw [h1]; simp
    · obtain ⟨u, hu, h2⟩ := List.mem_map.1 h1
      rw [← h2]
      have hb : bt F v u = true := (memsN_mem (by have := h.lt32 v; omega)).1 hu
      have h3 := h.rk hb
      have h4 := ih u (by omega)
      omega
theorem longN_17 {n : Nat} {F : List Nat} (h : Dag n F) (v : Nat) : (longN F v).length ≤ 17 := by
  have h1 := longN_len h _ v (Nat.le_refl _)
  have h2 := h.rk16 v
  have h3 := h.le
  omega
theorem bestK_17 {n : Nat} {F : List Nat} (h : Dag n F) (v k : Nat) : (bestK F v k).length ≤ 17 := by
  unfold bestK
  rcases bestOf_mem (((memsN (F.getD v 0)).take k).map (longN F)) with h1 | h1
  · rw [h1]; simp
  · obtain ⟨u, _, h2⟩ := List.mem_map.1 h1
    rw [← h2]; exact longN_17 h u
theorem memsN_under {n : Nat} {F : List Nat} (h : Dag n F) {v u : Nat} (hu : u ∈ memsN (F.getD v 0)) : u < n :=
  bit_under (h.lt v) ((memsN_mem (by have := h.lt32 v; omega)).1 hu)
theorem longN_under {n : Nat} {F : List Nat} (h : Dag n F) : ∀ k v, v < n → rkN F v ≤ k → ∀ x ∈ longN F v, x < n := by
  intro k
  induction k with
  | zero =>
    intro v hv hk x hx
    have h0 : memsN (F.getD v 0) = [] := List.eq_nil_of_length_eq_zero (by unfold rkN at hk; omega)
    rw [longN_eq h v, h0] at hx
    simp [bestOf] at hx
    omega
  | succ k ih =>
    intro v hv hk x hx
    rw [longN_eq h v] at hx
    rcases List.mem_cons.1 hx with rfl | hx
    · exact hv
    · rcases bestOf_mem ((memsN (F.getD v 0)).map (longN F)) with h1 | h1
      · rw [h1] at hx; cases hx
      · obtain ⟨u, hu, h2⟩ := List.mem_map.1 h1
        rw [← h2] at hx
        have hb : bt F v u = true := (memsN_mem (by have := h.lt32 v; omega)).1 hu
        exact ih u (memsN_under h hu) (by have := h.rk hb; omega) x hx
/-- Of two lists as long the one that was met first is the less. -/
def bestV2 (F : List Nat) (k : Nat) : List Nat := bestOf ((List.range k).map (longN F))
theorem bestV2_succ (F : List Nat) (k : Nat) : bestV2 F (k + 1) = lgr (bestV2 F k) (longN F k) := by
  unfold bestV2; rw [List.range_succ, List.map_append, List.map_singleton, bestOf_snoc]
/-- Whoever is best among earlier ones begins with an earlier one. -/
theorem best_head {n : Nat} {F : List Nat} (h : Dag n F) {l : List Nat} {u : Nat} (hl : ∀ x ∈ l, x < u) : bestOf (l.map (longN F)) = [] ∨ ∃ x t, x < u ∧ bestOf (l.map (longN F)) = x :: t := by
  rcases bestOf_mem (l.map (longN F)) with h1 | h1
  · exact .inl h1
  · obtain ⟨x, hx, h2⟩ := List.mem_map.1 h1
    obtain ⟨t, ht⟩ := longN_head h x
    exact .inr ⟨x, t, hl x hx, by rw [← h2, ht]⟩
/-- The sets the other way round. -/
def turnF (n : Nat) (F : List Nat) : List Nat := (List.range n).map fun v => maskL (((List.range n).filter fun u => bt F u v).map fun i : Nat => (i : Int))
theorem turnF_bit {n : Nat} {F : List Nat} (h : Dag n F) (v u : Nat) : bt (turnF n F) v u = true ↔ bt F u v = true := by
  have hin : ∀ a b, bt F a b = true → a < n ∧ b < n := by
    intro a b hab
    have h1 := bit_under (h.lt a) (show (F.getD a 0).testBit b = true from hab)
    refine ⟨?_, h1⟩
    apply Classical.byContradiction
    intro hn
    unfold bt at hab
    rw [getD_out (by rw [h.len]; omega), Nat.zero_testBit] at hab
    cases hab
  unfold bt turnF
  by_cases hv : v < n
  · rw [getD_in (by simpa using hv), List.getElem_map, List.getElem_range, testBit_maskL _ _ (by intro x hx; obtain ⟨i, _, rfl⟩ := List.mem_map.1 hx; omega), decide_eq_true_iff]
    constructor
    · intro hx
      obtain ⟨i, hi, he⟩ := List.mem_map.1 hx
      obtain rfl : i = u := by omega
      exact (List.mem_filter.1 hi).2
    · intro hb
      exact List.mem_map.2 ⟨u, List.mem_filter.2 ⟨List.mem_range.2 (hin u v hb).1, hb⟩, rfl⟩
  · rw [getD_out (by simp; omega), Nat.zero_testBit]
    constructor
    · intro h1; cases h1
    · intro hb; exact absurd (hin u v hb).2 hv
theorem Dag.turn {n : Nat} {F : List Nat} (h : Dag n F) : Dag n (turnF n F) := by
  have hin : ∀ a b, bt F a b = true → a < n := by
    intro a b hab
    apply Classical.byContradiction
    intro hn
    unfold bt at hab
    rw [getD_out (by rw [h.len]; omega), Nat.zero_testBit] at hab
    cases hab
  refine ⟨by simp [turnF], h.le, ?_, ?_, ?_⟩
  · intro v
    apply mask_lt
    intro i hi
    exact hin i v ((turnF_bit h v i).1 hi)
  · intro v
    rw [Bool.eq_false_iff]
    intro h1
    have := (turnF_bit h v v).1 h1
    rw [h.irr] at this; cases this
  · intro v u x h1 h2
    exact (turnF_bit h v x).2 (h.tr x u v ((turnF_bit h u x).1 h2) ((turnF_bit h v u).1 h1))
/-- A right orientation's sets. -/
theorem dag_of {g up : List (List Int)} (h : TransP g up) : Dag g.length (up.map maskL) := by
  have hi := up_iff.1 h.1
  have hg := hi.ok
  have hlen := hi.len
  have hrow : ∀ v, v < g.length → Inc g.length (row up (v : Int)) := fun v hv => hi.inc _ (row_mem_of (by omega))
  have hget : ∀ v, v < up.length → (up.map maskL).getD v 0 = maskL (row up (v : Int)) := by
    intro v hv
    rw [getD_in (by rw [List.length_map]; exact hv), List.getElem_map, row_nat _ _ hv]
  have hbit : ∀ a b, bt (up.map maskL) a b = true ↔ a < g.length ∧ (b : Int) ∈ row up (a : Int) := by
    intro a b
    unfold bt
    by_cases ha : a < up.length
    · rw [hget a ha, testBit_maskL _ b (fun v hv => ((hrow a (by omega)).1 v hv).1), decide_eq_true_iff]
      exact ⟨fun h => ⟨by omega, h⟩, fun h => h.2⟩
    · rw [getD_out (by rw [List.length_map]; omega), Nat.zero_testBit]
      exact ⟨fun h => (by cases h), fun h => absurd h.1 (by omega)⟩
  refine ⟨by rw [List.length_map, hlen], hg.le, ?_, ?_, ?_⟩
  · intro v
    apply mask_lt
    intro i hi
    have h1 := (hbit v i).1 hi
    have := (hrow v h1.1).1 _ h1.2
    omega
  · intro v
    rw [Bool.eq_false_iff]
    intro h1
    have h2 := (hbit v v).1 h1
    exact hg.irr v h2.1 ((hi.at' v h2.1).1 _ h2.2)
  · intro v u x h1 h2
    have h3 := (hbit v u).1 h1
    have h4 := (hbit u x).1 h2
    exact (hbit v x).2 ⟨h3.1, h.2 v (by omega) _ h3.2 _ h4.2⟩
noncomputable def longestL (g up : List (List Int)) : List Int := if TransP g up then (bestV2 (up.map maskL) g.length).map fun i : Nat => (i : Int) else []
noncomputable def layersL (g up : List (List Int)) : List Int := if TransP g up then (List.range g.length).map fun v => ((longN (turnF g.length (up.map maskL)) v).length : Int) - 1 else []
end Go.Proofs.YtdncmloajajiaaaDoor
