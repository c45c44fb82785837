/- FnLayers, plain: the reference's greatest cliques; the longest way up has as many vertices as the greatest of them. · The greatest cliques: the reference's way; the most vertices of one. · CliquesOf: the reference's; the most vertices of a clique. -/
import Derived.Test.YtdncmloajajiaaaDoorForM
import Derived.Test.YtdncmloajajiaaaDoorLongM
import Derived.Test.YtdncmloajajiaaaDoorDist
import Derived.Test.YtdncmloajajiaaaDoorMeet
import Derived.Test.YtdncmloajajiaaaDoorLongI
import Derived.Test.YtdncmloajajiaaaDoorLink
import Derived.Deep.RegionHeld3
import Derived.Deep.RegionWith
import Derived.Test.YtdncmloajajiaaaDoorDistI
namespace Go.Proofs.YtdncmloajajiaaaDoor
open Go.RowKit
section
section
theorem least_of {p : Nat → Prop} (h : ∃ i, p i) : ∃ i, p i ∧ ∀ j, j < i → ¬ p j := by
  obtain ⟨i, hi⟩ := h
  induction i using Nat.strongRecOn with
  | _ i ih =>
    by_cases hc : ∃ j, j < i ∧ p j
    · obtain ⟨j, hj, hp⟩ := hc; exact ih j hj hp
    · exact ⟨i, hi, fun j hj hp => hc ⟨j, hj, hp⟩⟩
theorem meetL_mem {a b : List Int} {x : Int} : x ∈ meetL a b ↔ x ∈ a ∧ x ∈ b := by
  unfold meetL; rw [List.mem_filter, decide_eq_true_iff]
/-- The reference's cliques, k rounds deep. -/
noncomputable def clq (R : Int → List Int) : Nat → List Int → List Int → List Int → List (List Int)
  | 0, _, _, _ => []
  | k + 1, set, left, out => if left = [] ∧ out = [] then [set] else (List.range left.length).flatMap fun i => clq R k (set ++ [left.getD i 0]) (meetL (left.drop (i + 1)) (R (left.getD i 0))) (meetL (out ++ left.take i) (R (left.getD i 0)))
/-- What the first m of those that are left lead to. -/
noncomputable def clqTo (R : Int → List Int) (k : Nat) (set left out : List Int) (m : Nat) : List (List Int) := (List.range m).flatMap fun i => clq R k (set ++ [left.getD i 0]) (meetL (left.drop (i + 1)) (R (left.getD i 0))) (meetL (out ++ left.take i) (R (left.getD i 0)))
theorem clqTo_succ (R : Int → List Int) (k : Nat) (set left out : List Int) (m : Nat) : clqTo R k set left out (m + 1) = clqTo R k set left out m ++ clq R k (set ++ [left.getD m 0]) (meetL (left.drop (m + 1)) (R (left.getD m 0))) (meetL (out ++ left.take m) (R (left.getD m 0))) := by
  unfold clqTo
  rw [List.range_succ, List.flatMap_append, List.flatMap_singleton]
theorem clq_end (R : Int → List Int) (k : Nat) (set : List Int) : clq R (k + 1) set [] [] = [set] := by unfold clq; rw [if_pos ⟨rfl, rfl⟩]
theorem clq_go (R : Int → List Int) (k : Nat) (set left out : List Int) (h : ¬ (left = [] ∧ out = [])) : clq R (k + 1) set left out = clqTo R k set left out left.length := by
  conv => lhs; unfold clq
  rw [if_neg h]; rfl
theorem clqTo_len (R : Int → List Int) (k : Nat) (ih : ∀ set left out, left.length < k → (clq R k set left out).length ≤ 2 ^ left.length) (set left out : List Int) (h : left.length < k + 1) : ∀ m, m ≤ left.length → (clqTo R k set left out m).length + 2 ^ (left.length - m) ≤ 2 ^ left.length := by
  intro m
  induction m with
  | zero => intro _; simp [clqTo]
  | succ m ihm =>
    intro hm
    have h1 := ihm (by omega)
    rw [clqTo_succ, List.length_append]
    have h2 := ih (set ++ [left.getD m 0]) (meetL (left.drop (m + 1)) (R (left.getD m 0))) (meetL (out ++ left.take m) (R (left.getD m 0))) (by
      have := meetL_len (left.drop (m + 1)) (R (left.getD m 0))
      rw [List.length_drop] at this; omega)
    have h3 : 2 ^ (meetL (left.drop (m + 1)) (R (left.getD m 0))).length ≤ 2 ^ (left.length - (m + 1)) := Nat.pow_le_pow_right (by decide) (by
      have := meetL_len (left.drop (m + 1)) (R (left.getD m 0))
      rw [List.length_drop] at this; omega)
    have h4 : 2 ^ (left.length - m) = 2 * 2 ^ (left.length - (m + 1)) := by
      rw [show left.length - m = (left.length - (m + 1)) + 1 by omega, Nat.pow_succ]; omega
    omega
theorem clq_len (R : Int → List Int) : ∀ k set left out, left.length < k → (clq R k set left out).length ≤ 2 ^ left.length := by
  intro k
  induction k with
  | zero => intro set left out h; omega
  | succ k ih =>
    intro set left out h
    by_cases hc : left = [] ∧ out = []
    · rw [hc.1, hc.2, clq_end]; simp
    · rw [clq_go _ _ _ _ _ hc]
      exact Nat.le_trans (Nat.le_add_right _ _) (clqTo_len R k ih set left out h left.length (Nat.le_refl _))
theorem clqTo_16 (R : Int → List Int) (k : Nat) (set left out : List Int) (h : left.length < k + 1) (h16 : left.length ≤ 16) (m : Nat) (hm : m ≤ left.length) : (clqTo R k set left out m).length ≤ 65536 := by
  have h1 := clqTo_len R k (clq_len R k) set left out h m hm
  have h2 : 2 ^ left.length ≤ 65536 := Nat.pow_le_pow_right (n := 2) (i := left.length) (j := 16) (by decide) h16
  exact Nat.le_trans (Nat.le_trans (Nat.le_add_right _ _) h1) h2
theorem clq_16 (R : Int → List Int) (k : Nat) (set left out : List Int) (h : left.length < k) (h16 : left.length ≤ 16) : (clq R k set left out).length ≤ 65536 := by
  have h1 := clq_len R k set left out h
  have h2 : 2 ^ left.length ≤ 65536 := Nat.pow_le_pow_right (n := 2) (i := left.length) (j := 16) (by decide) h16
  exact Nat.le_trans h1 h2
theorem getD_memI {l : List Int} {i : Nat} (h : i < l.length) : l.getD i 0 ∈ l := by
  rw [List.getD_eq_getElem?_getD, List.getElem?_eq_getElem h]; exact List.getElem_mem h
theorem clq_sound {R : Int → List Int} {P : Int → Prop} : ∀ k set left out, set.Pairwise (fun a b => b ∈ R a) → (∀ s ∈ set, P s) → (∀ x ∈ left, P x) → (∀ s ∈ set, ∀ x ∈ left, x ∈ R s) → ∀ q ∈ clq R k set left out, q.Pairwise (fun a b => b ∈ R a) ∧ ∀ x ∈ q, P x := by
  intro k
  induction k with
  | zero => intro set left out _ _ _ _ q hq; cases hq
  | succ k ih =>
    intro set left out h1 h2 h3 h4 q hq
    unfold clq at hq
    split at hq
    · obtain rfl : q = set := by simpa using hq
      exact ⟨h1, h2⟩
    · obtain ⟨i, hi, hq⟩ := List.mem_flatMap.1 hq
      have hv := getD_memI (List.mem_range.1 hi)
      refine ih _ _ _ ?_ ?_ ?_ ?_ q hq
      · rw [List.pairwise_append]
        refine ⟨h1, List.pairwise_singleton _ _, fun a ha b hb => ?_⟩
        obtain rfl : b = left.getD i 0 := by simpa using hb
        exact h4 a ha _ hv
      · intro s hs
        rcases List.mem_append.1 hs with hs | hs
        · exact h2 s hs
        · obtain rfl : s = left.getD i 0 := by simpa using hs
          exact h3 _ hv
      · intro x hx
        exact h3 x (List.mem_of_mem_drop (meetL_mem.1 hx).1)
      · intro s hs x hx
        rcases List.mem_append.1 hs with hs | hs
        · exact h4 s hs x (List.mem_of_mem_drop (meetL_mem.1 hx).1)
        · obtain rfl : s = left.getD i 0 := by simpa using hs
          exact (meetL_mem.1 hx).2
theorem clq_full {R : Int → List Int} {P : Int → Prop} (hP : ∀ x y, P x → P y → x ≠ y → y ∈ R x) : ∀ k set left out, left.length < k → (∀ s ∈ set, P s) → (∀ x, P x → x ∈ set ∨ x ∈ left) → (∀ s ∈ set, ∀ x ∈ left ++ out, x ∈ R s) → (∀ y ∈ left ++ out, ¬ ∀ x, P x → y ∈ R x) → ∃ q ∈ clq R k set left out, ∀ x, P x → x ∈ q := by
  intro k
  induction k with
  | zero => intro set left out h; omega
  | succ k ih =>
    intro set left out hk h1 h2 h3 h4
    unfold clq
    by_cases hc : left = [] ∧ out = []
    · rw [if_pos hc]
      refine ⟨set, List.mem_singleton.2 rfl, fun x hx => ?_⟩
      rcases h2 x hx with h | h
      · exact h
      · rw [hc.1] at h; cases h
    · rw [if_neg hc]
      by_cases hm : ∃ i, i < left.length ∧ P (left.getD i 0)
      · obtain ⟨i, ⟨hi, hPi⟩, hno⟩ := least_of hm
        have hv := getD_memI hi
        obtain ⟨q, hq, hall⟩ := ih (set ++ [left.getD i 0]) (meetL (left.drop (i + 1)) (R (left.getD i 0))) (meetL (out ++ left.take i) (R (left.getD i 0))) (by
            have := meetL_len (left.drop (i + 1)) (R (left.getD i 0))
            rw [List.length_drop] at this; omega)
          (fun s hs => by
            rcases List.mem_append.1 hs with hs | hs
            · exact h1 s hs
            · obtain rfl : s = left.getD i 0 := by simpa using hs
              exact hPi)
          (fun x hx => by
            by_cases hxv : x = left.getD i 0
            · left; rw [hxv]; simp
            · rcases h2 x hx with h | h
              · left; exact List.mem_append_left _ h
              · right
                rw [meetL_mem]
                refine ⟨?_, hP _ _ hPi hx (fun e => hxv e.symm)⟩
                obtain ⟨j, hj, rfl⟩ := List.mem_iff_getElem.1 h
                have e : left.getD j 0 = left[j] := by rw [List.getD_eq_getElem?_getD, List.getElem?_eq_getElem hj]; rfl
                have hij : i < j := by
                  rcases Nat.lt_trichotomy j i with h5 | h5 | h5
                  · exact absurd ⟨hj, by rw [e]; exact hx⟩ (hno j h5)
                  · subst h5; exact absurd e.symm hxv
                  · exact h5
                exact List.mem_iff_getElem.2 ⟨j - (i + 1), by rw [List.length_drop]; omega, by rw [List.getElem_drop]; congr 1; omega⟩)
          (fun s hs x hx => by
            have hx2 : x ∈ left ++ out ∧ x ∈ R (left.getD i 0) := by
              rcases List.mem_append.1 hx with h | h
              · exact ⟨List.mem_append_left _ (List.mem_of_mem_drop (meetL_mem.1 h).1), (meetL_mem.1 h).2⟩
              · refine ⟨?_, (meetL_mem.1 h).2⟩
                rcases List.mem_append.1 (meetL_mem.1 h).1 with h | h
                · exact List.mem_append_right _ h
                · exact List.mem_append_left _ (List.mem_of_mem_take h)
            rcases List.mem_append.1 hs with hs | hs
            · exact h3 s hs x hx2.1
            · obtain rfl : s = left.getD i 0 := by simpa using hs
              exact hx2.2)
          (fun y hy => by
            refine h4 y ?_
            rcases List.mem_append.1 hy with h | h
            · exact List.mem_append_left _ (List.mem_of_mem_drop (meetL_mem.1 h).1)
            · rcases List.mem_append.1 (meetL_mem.1 h).1 with h | h
              · exact List.mem_append_right _ h
              · exact List.mem_append_left _ (List.mem_of_mem_take h))
        exact ⟨q, List.mem_flatMap.2 ⟨i, List.mem_range.2 hi, hq⟩, hall⟩
      · exfalso
        have hset : ∀ x, P x → x ∈ set := by
          intro x hx
          rcases h2 x hx with h | h
          · exact h
          · obtain ⟨j, hj, rfl⟩ := List.mem_iff_getElem.1 h
            exact absurd ⟨j, hj, by rw [List.getD_eq_getElem?_getD, List.getElem?_eq_getElem hj]; exact hx⟩ hm
        have hne : left ++ out ≠ [] := fun e => hc (List.append_eq_nil_iff.1 e)
        obtain ⟨y, hy⟩ := List.exists_mem_of_ne_nil _ hne
        exact h4 y hy fun x hx => h3 x (hset x hx) y hy
end
section
theorem longN_pw {n : Nat} {F : List Nat} (h : Dag n F) : ∀ k v, rkN F v ≤ k → (longN F v).Pairwise (fun a b => bt F a b = true) := by
  intro k
  induction k with
  | zero =>
    intro v hk
    have h0 : memsN (F.getD v 0) = [] := List.eq_nil_of_length_eq_zero (by unfold rkN at hk; omega)
    rw [longN_eq h v, h0]
    simp [bestOf]
  | succ k ih =>
    intro v hk
    rw [longN_eq h v]
    rcases bestOf_mem ((memsN (F.getD v 0)).map (longN F)) with h1 | h1
    · rw [h1]; exact List.pairwise_singleton _ _
    · obtain ⟨u, hu, h2⟩ := List.mem_map.1 h1
      rw [← h2]
      have hb : bt F v u = true := (memsN_mem (by have := h.lt32 v; omega)).1 hu
      have h3 := ih u (by have := h.rk hb; omega)
      obtain ⟨t, ht⟩ := longN_head h u
      rw [ht] at h3 ⊢
      refine List.pairwise_cons.2 ⟨fun x hx => ?_, h3⟩
      rcases List.mem_cons.1 hx with rfl | hx
      · exact hb
      · exact h.tr v u x hb ((List.pairwise_cons.1 h3).1 x hx)
theorem pw_le {n : Nat} {F : List Nat} (h : Dag n F) : ∀ (l : List Nat) (v : Nat), (v :: l).Pairwise (fun a b => bt F a b = true) → (v :: l).length ≤ (longN F v).length := by
  intro l
  induction l with
  | nil => intro v _; obtain ⟨t, ht⟩ := longN_head h v; rw [ht]; simp
  | cons u l ih =>
    intro v hp
    have h1 := ih u (List.pairwise_cons.1 hp).2
    have hb := (List.pairwise_cons.1 hp).1 u List.mem_cons_self
    rw [longN_eq h v]
    have h2 := bestOf_ge (List.mem_map.2 ⟨u, (memsN_mem (by have := h.lt32 v; omega)).2 hb, rfl⟩ : longN F u ∈ (memsN (F.getD v 0)).map (longN F))
    simp only [List.length_cons] at h1 ⊢
    omega
theorem bestV2_ge (F : List Nat) {n v : Nat} (hv : v < n) : (longN F v).length ≤ (bestV2 F n).length :=
  bestOf_ge (List.mem_map.2 ⟨v, List.mem_range.2 hv, rfl⟩)
theorem bestV2_pw {n : Nat} {F : List Nat} (h : Dag n F) : (bestV2 F n).Pairwise (fun a b => bt F a b = true) := by
  unfold bestV2
  rcases bestOf_mem ((List.range n).map (longN F)) with h1 | h1
  · rw [h1]; exact .nil
  · obtain ⟨u, _, h2⟩ := List.mem_map.1 h1
    rw [← h2]; exact longN_pw h _ u (Nat.le_refl _)
theorem bestV2_lt {n : Nat} {F : List Nat} (h : Dag n F) : ∀ x ∈ bestV2 F n, x < n := by
  unfold bestV2
  rcases bestOf_mem ((List.range n).map (longN F)) with h1 | h1
  · rw [h1]; intro x hx; cases hx
  · obtain ⟨u, hu, h2⟩ := List.mem_map.1 h1
    rw [← h2]; exact longN_under h _ u (List.mem_range.1 hu) (Nat.le_refl _)
theorem turn_le {n : Nat} {F : List Nat} (h : Dag n F) {v : Nat} (hv : v < n) : (longN (turnF n F) v).length ≤ (bestV2 F n).length := by
  have h1 := longN_pw h.turn _ v (Nat.le_refl _)
  have h2 := longN_under h.turn _ v hv (Nat.le_refl _)
  have h3 : (longN (turnF n F) v).reverse.Pairwise (fun a b => bt F a b = true) := by
    rw [List.pairwise_reverse]
    exact h1.imp fun hb => (turnF_bit h _ _).1 hb
  have h4 : ∀ x ∈ (longN (turnF n F) v).reverse, x < n := fun x hx => h2 x (List.mem_reverse.1 hx)
  rw [← List.length_reverse]
  generalize (longN (turnF n F) v).reverse = l at h3 h4
  cases l with
  | nil => simp
  | cons x l => exact Nat.le_trans (pw_le h l x h3) (bestV2_ge F (h4 x List.mem_cons_self))
theorem turn_up {n : Nat} {F : List Nat} (h : Dag n F) {v u : Nat} (hb : bt F v u = true) : (longN (turnF n F) v).length < (longN (turnF n F) u).length := by
  rw [longN_eq h.turn u]
  have h2 := bestOf_ge (List.mem_map.2 ⟨v, (memsN_mem (by have := h.turn.lt32 u; omega)).2 ((turnF_bit h u v).2 hb), rfl⟩ : longN (turnF n F) v ∈ (memsN ((turnF n F).getD u 0)).map (longN (turnF n F)))
  rw [List.length_cons]
  omega
theorem nodup_leL {L : Nat} {l : List Nat} (h : l.Nodup) (hl : ∀ x ∈ l, x < L) : l.length ≤ L := by
  have := h.length_le_of_subset (l₂ := List.range L) (fun x hx => List.mem_range.2 (hl x hx))
  rwa [List.length_range] at this
end
section
theorem ori_lt {n : Nat} {A H : List Nat} (hA : GA n A) (h : TrO A (fun a b => bt H a b = true)) (u : Nat) : H.getD u 0 < 2 ^ n := by
  apply Nat.lt_pow_two_of_testBit
  intro i hi
  rw [Bool.eq_false_iff]
  intro hb
  have := (hA.lt (h.sub u i hb)).2
  omega
theorem ori_row {n : Nat} {H : List Nat} (hl : H.length = n) {v : Nat} (hv : v < n) : row (H.map mems) (v : Int) = mems (H.getD v 0) := by
  rw [row_nat _ _ (by rw [List.length_map]; omega), List.getElem_map, getD_in (by omega)]
theorem ori_mem {n : Nat} {A H : List Nat} (hA : GA n A) (h : TrO A (fun a b => bt H a b = true)) (u v : Nat) : (v : Int) ∈ mems (H.getD u 0) ↔ bt H u v = true := by
  have h1 := ori_lt hA h u
  have h2 : 2 ^ n ≤ 65536 := Nat.pow_le_pow_right (n := 2) (i := n) (j := 16) (by decide) hA.le
  rw [mems_mem (by omega)]
  constructor
  · rintro ⟨i, hi, hb⟩
    obtain rfl : v = i := by omega
    exact hb
  · intro hb; exact ⟨v, rfl, hb⟩
theorem ga_mem {n : Nat} {A : List Nat} (hA : GA n A) (u v : Nat) : (v : Int) ∈ mems (A.getD u 0) ↔ bt A u v = true := by
  have h1 := hA.in2 u
  have h2 : 2 ^ n ≤ 65536 := Nat.pow_le_pow_right (n := 2) (i := n) (j := 16) (by decide) hA.le
  rw [mems_mem (by omega)]
  constructor
  · rintro ⟨i, hi, hb⟩
    obtain rfl : v = i := by omega
    exact hb
  · intro hb; exact ⟨v, rfl, hb⟩
theorem mems_nat {m : Nat} {x : Int} (h : x ∈ mems m) : ∃ i : Nat, x = i := by
  unfold mems at h
  obtain ⟨i, _, rfl⟩ := List.mem_map.1 h
  exact ⟨i, rfl⟩
/-- What the reference's orientation is to the program. -/
theorem trO_trans {n : Nat} {A H : List Nat} (hA : GA n A) (hl : H.length = n) (h : TrO A (fun a b => bt H a b = true)) : TransP (A.map mems) (H.map mems) := by
  have hgl : (A.map mems).length = n := by rw [List.length_map, hA.len]
  refine ⟨up_iff.2 ⟨hA.gok, by rw [hgl, List.length_map, hl], ?_, ?_⟩, ?_⟩
  · intro b hb
    obtain ⟨m, hm, rfl⟩ := List.mem_map.1 hb
    obtain ⟨u, hu, rfl⟩ := List.mem_iff_getElem.1 hm
    rw [hgl, ← getD_in hu]
    refine ⟨fun x hx => ?_, mems_sorted _⟩
    obtain ⟨i, rfl⟩ := mems_nat hx
    have := (hA.lt (h.sub _ _ ((ori_mem hA h u i).1 hx))).2
    omega
  · intro u hu
    rw [hgl] at hu
    unfold UpAt
    rw [ori_row hl hu, hA.row hu]
    refine ⟨fun v hv => ?_, fun v hv => ?_⟩
    · obtain ⟨i, rfl⟩ := mems_nat hv
      exact (ga_mem hA u i).2 (h.sub _ _ ((ori_mem hA h u i).1 hv))
    · obtain ⟨i, rfl⟩ := mems_nat hv
      have hb := (ga_mem hA u i).1 hv
      have hi := (hA.lt hb).2
      rw [ori_row hl hi, ori_mem hA h, ori_mem hA h]
      intro he
      rcases h.all u i hb with h1 | h1
      · exact h.one u i h1 (he.1 h1)
      · exact h.one i u h1 (he.2 h1)
  · intro v hv b hb c hc
    rw [List.length_map, hl] at hv
    rw [ori_row hl hv] at hb ⊢
    obtain ⟨i, rfl⟩ := mems_nat hb
    have h1 := (ori_mem hA h v i).1 hb
    have hi := (hA.lt (h.sub _ _ h1)).2
    rw [ori_row hl hi] at hc
    obtain ⟨j, rfl⟩ := mems_nat hc
    exact (ori_mem hA h v j).2 (h.tr v i j h1 ((ori_mem hA h i j).1 hc))
theorem ori_masks {n : Nat} {A H : List Nat} (hA : GA n A) (h : TrO A (fun a b => bt H a b = true)) : (H.map mems).map maskL = H := by
  rw [List.map_map]
  have h1 : ∀ x ∈ H, (maskL ∘ mems) x = x := fun x hx => by
    obtain ⟨u, hu, rfl⟩ := List.mem_iff_getElem.1 hx
    have h1 := ori_lt hA h u
    have h2 : 2 ^ n ≤ 65536 := Nat.pow_le_pow_right (n := 2) (i := n) (j := 16) (by decide) hA.le
    rw [getD_in hu] at h1
    exact maskL_mems (by omega)
  rw [List.map_congr_left h1]; simp
/-- The most vertices of a list of a list. -/
def mostL (C : List (List Int)) : Nat := C.foldl (fun b q => if b < q.length then q.length else b) 0
theorem mostL_snoc (C : List (List Int)) (q : List Int) : mostL (C ++ [q]) = if mostL C < q.length then q.length else mostL C := by unfold mostL; rw [List.foldl_append]; rfl
theorem mostL_le {L : Nat} : ∀ {C : List (List Int)}, (∀ q ∈ C, q.length ≤ L) → mostL C ≤ L := by
  intro C h
  have key : ∀ (C : List (List Int)) (b : Nat), b ≤ L → (∀ q ∈ C, q.length ≤ L) → C.foldl (fun b q => if b < q.length then q.length else b) b ≤ L := by
    intro C
    induction C with
    | nil => intro b hb _; exact hb
    | cons q C ih =>
      intro b hb h
      rw [List.foldl_cons]
      refine ih _ ?_ (fun q hq => h q (List.mem_cons_of_mem _ hq))
      have := h q List.mem_cons_self
      split <;> omega
  exact key C 0 (Nat.zero_le _) h
theorem mostL_ge {C : List (List Int)} {q : List Int} (hq : q ∈ C) : q.length ≤ mostL C := by
  have key : ∀ (C : List (List Int)) (b : Nat), b ≤ C.foldl (fun b q => if b < q.length then q.length else b) b ∧ ∀ q ∈ C, q.length ≤ C.foldl (fun b q => if b < q.length then q.length else b) b := by
    intro C
    induction C with
    | nil => intro b; exact ⟨Nat.le_refl _, fun q hq => by cases hq⟩
    | cons x C ih =>
      intro b
      rw [List.foldl_cons]
      have h1 := ih (if b < x.length then x.length else b)
      have h2 : b ≤ (if b < x.length then x.length else b) ∧ x.length ≤ (if b < x.length then x.length else b) := by split <;> omega
      refine ⟨by omega, fun q hq => ?_⟩
      rcases List.mem_cons.1 hq with rfl | hq
      · omega
      · exact h1.2 q hq
  exact (key C 0).2 q hq
theorem clique_le {n : Nat} {A H : List Nat} (hA : GA n A) (hD : Dag n H) (h : TrO A (fun a b => bt H a b = true)) {q : List Int} (hq : q.Pairwise (fun a b => b ∈ row (A.map mems) a)) (hr : ∀ x ∈ q, 0 ≤ x ∧ x < (n : Int)) : q.length ≤ (bestV2 H n).length := by
  have h1 : (q.map fun x => (longN (turnF n H) x.toNat).length - 1).Nodup := by
    unfold List.Nodup
    rw [List.pairwise_map]
    refine (List.Pairwise.and_mem.1 hq).imp ?_
    rintro a b ⟨ha, hb, hab⟩
    have ra := hr a ha
    have rb := hr b hb
    obtain ⟨i, rfl⟩ := Int.eq_ofNat_of_zero_le ra.1
    obtain ⟨j, rfl⟩ := Int.eq_ofNat_of_zero_le rb.1
    rw [hA.row (by omega), ga_mem hA] at hab
    simp only [Int.toNat_natCast]
    obtain ⟨t, ht⟩ := longN_head hD.turn i
    obtain ⟨t', ht'⟩ := longN_head hD.turn j
    have e1 : 0 < (longN (turnF n H) i).length := by rw [ht]; simp
    have e2 : 0 < (longN (turnF n H) j).length := by rw [ht']; simp
    rcases h.all i j hab with hb | hb
    · have := turn_up hD hb; omega
    · have := turn_up hD hb; omega
  have h2 := nodup_leL (L := (bestV2 H n).length) h1 (fun x hx => by
    obtain ⟨y, hy, rfl⟩ := List.mem_map.1 hx
    have ry := hr y hy
    have h3 := turn_le hD (v := y.toNat) (by omega)
    obtain ⟨t, ht⟩ := longN_head hD.turn y.toNat
    have e1 : 0 < (longN (turnF n H) y.toNat).length := by rw [ht]; simp
    omega)
  rwa [List.length_map] at h2
/-- The law's numbers. -/
theorem layers_facts {n : Nat} {A H : List Nat} (hA : GA n A) (hl : H.length = n) (h : TrO A (fun a b => bt H a b = true)) :
    ∃ (wy : List Nat) (ly : List Nat), longestL (A.map mems) (H.map mems) = wy.map (fun i : Nat => (i : Int)) ∧ layersL (A.map mems) (H.map mems) = ly.map (fun i : Nat => (i : Int)) ∧ ly.length = n ∧ wy.length ≤ 17 ∧
      mostL (clq (row (A.map mems)) (n + 1) [] (allL n) []) = wy.length ∧
      (∀ i, i + 1 < wy.length → wy.getD i 0 < n ∧ wy.getD (i + 1) 0 < n ∧ bt H (wy.getD i 0) (wy.getD (i + 1) 0) = true) ∧
      (∀ v, v < n → ly.getD v 0 < wy.length) ∧ (∀ v u, bt H v u = true → ly.getD v 0 < ly.getD u 0) := by
  have hT := trO_trans hA hl h
  have hgl : (A.map mems).length = n := by rw [List.length_map, hA.len]
  have hD : Dag n H := by
    have := dag_of hT
    rwa [hgl, ori_masks hA h] at this
  refine ⟨bestV2 H n, (List.range n).map (fun v => (longN (turnF n H) v).length - 1), ?_, ?_, by simp, ?_, ?_, ?_, ?_, ?_⟩
  · unfold longestL
    rw [if_pos hT, ori_masks hA h, hgl]
  · unfold layersL
    rw [if_pos hT, ori_masks hA h, hgl, List.map_map]
    apply List.map_congr_left
    intro v _
    obtain ⟨t, ht⟩ := longN_head hD.turn v
    have e1 : 0 < (longN (turnF n H) v).length := by rw [ht]; simp
    simp only [Function.comp]
    omega
  · unfold bestV2
    rcases bestOf_mem ((List.range n).map (longN H)) with h1 | h1
    · rw [h1]; simp
    · obtain ⟨u, _, h2⟩ := List.mem_map.1 h1
      rw [← h2]; exact longN_17 hD u
  · have hall : ∀ x ∈ allL n, 0 ≤ x ∧ x < (n : Int) := fun x hx => (allL_mem n x).1 hx
    apply Nat.le_antisymm
    · apply mostL_le
      intro q hq
      obtain ⟨h1, h2⟩ := clq_sound (R := row (A.map mems)) (P := fun x => 0 ≤ x ∧ x < (n : Int)) (n + 1) [] (allL n) [] .nil (fun s hs => by cases hs) hall (fun s hs => by cases hs) q hq
      exact clique_le hA hD h h1 h2
    · have hpw := bestV2_pw hD
      have hlt := bestV2_lt hD
      have hadj : ∀ a b, a < n → bt H a b = true ∨ bt H b a = true → (b : Int) ∈ row (A.map mems) (a : Int) := by
        intro a b ha hb
        rw [hA.row ha, ga_mem hA]
        rcases hb with hb | hb
        · exact h.sub _ _ hb
        · rw [hA.sym]; exact h.sub _ _ hb
      have hc : ((bestV2 H n).map fun i : Nat => (i : Int)).Pairwise (fun a b => b ∈ row (A.map mems) a) := by
        rw [List.pairwise_map]
        refine (List.Pairwise.and_mem.1 hpw).imp ?_
        rintro a b ⟨ha, _, hab⟩
        exact hadj a b (hlt a ha) (.inl hab)
      obtain ⟨q, hq, hsub⟩ := clq_full (R := row (A.map mems)) (P := fun x => x ∈ (bestV2 H n).map fun i : Nat => (i : Int)) (by
          intro x y hx hy hne
          obtain ⟨i, hi, rfl⟩ := List.mem_map.1 hx
          obtain ⟨j, hj, rfl⟩ := List.mem_map.1 hy
          obtain ⟨a, ha, rfl⟩ := List.mem_iff_getElem.1 hi
          obtain ⟨b, hb, rfl⟩ := List.mem_iff_getElem.1 hj
          apply hadj _ _ (hlt _ (List.getElem_mem ha))
          rcases Nat.lt_trichotomy a b with h5 | h5 | h5
          · exact .inl (List.pairwise_iff_getElem.1 hpw a b ha hb h5)
          · subst h5; exact absurd rfl hne
          · exact .inr (List.pairwise_iff_getElem.1 hpw b a hb ha h5)) (n + 1) [] (allL n) [] (by rw [allL_len]; omega) (fun s hs => by cases hs) (fun x hx => by
            right
            obtain ⟨i, hi, rfl⟩ := List.mem_map.1 hx
            exact (allL_mem n _).2 ⟨by omega, by have := hlt i hi; omega⟩) (fun s hs => by cases hs) (fun y hy hbad => by
            rw [List.append_nil] at hy
            have hy2 := hall y hy
            have h1 := clique_le hA hD h (q := ((bestV2 H n).map fun i : Nat => (i : Int)) ++ [y]) (by
              rw [List.pairwise_append]
              refine ⟨hc, List.pairwise_singleton _ _, fun a ha b hb => ?_⟩
              obtain rfl : b = y := by simpa using hb
              exact hbad a ha) (fun x hx => by
              rcases List.mem_append.1 hx with hx | hx
              · obtain ⟨i, hi, rfl⟩ := List.mem_map.1 hx
                have := hlt i hi; omega
              · obtain rfl : x = y := by simpa using hx
                exact hy2)
            rw [List.length_append, List.length_map, List.length_singleton] at h1
            omega)
      have hnd : ((bestV2 H n).map fun i : Nat => (i : Int)).Nodup := by
        unfold List.Nodup
        rw [List.pairwise_map]
        refine hpw.imp ?_
        intro a b hab e
        obtain rfl : a = b := by omega
        rw [hD.irr] at hab; cases hab
      have h1 := hnd.length_le_of_subset (l₂ := q) (fun x hx => hsub x hx)
      rw [List.length_map] at h1
      exact Nat.le_trans h1 (mostL_ge hq)
  · intro i hi
    have h1 : i < (bestV2 H n).length := by omega
    rw [getD_in h1, getD_in hi]
    exact ⟨bestV2_lt hD _ (List.getElem_mem _), bestV2_lt hD _ (List.getElem_mem _), List.pairwise_iff_getElem.1 (bestV2_pw hD) i (i + 1) h1 hi (by omega)⟩
  · intro v hv
    rw [getD_in (by simpa using hv), List.getElem_map, List.getElem_range]
    have h3 := turn_le hD hv
    obtain ⟨t, ht⟩ := longN_head hD.turn v
    have e1 : 0 < (longN (turnF n H) v).length := by rw [ht]; simp
    omega
  · intro v u hb
    have h1 := hA.lt (h.sub _ _ hb)
    rw [getD_in (by simpa using h1.1), getD_in (by simpa using h1.2), List.getElem_map, List.getElem_map, List.getElem_range, List.getElem_range]
    have h2 := turn_up hD hb
    obtain ⟨t, ht⟩ := longN_head hD.turn v
    have e1 : 0 < (longN (turnF n H) v).length := by rw [ht]; simp
    omega
end
end
section
section
theorem step_pushC {P : Program} {ops : Array Oper} {o : Oper} {a : Act} {K : Act → World → Prop} {Q : Exit → Act → World → Prop} {E : Prop} {t e : TypeId} {z : Value} (hT : SliceT P t e z) (W : World) (hg : o.guard = none) (s x : Operand) (hop : o.op = .call { callee := .builtin .append, args := #[s, x], argTypes := #[t, t] })
    (B : Nat) (v : Value) (xs : List Value) (hs : a.eval s = v) (hown : Own e W B v xs) (u : Value) (gx : Nat) (hx : a.eval x = .slice (some ⟨gx, 0, none⟩) 1 1) (hgx : W.heap[gx]? = some (.cells #[u] e (0, 0))) (hu : u.oneCell' = true) (hn : xs.length < 1099511627776) (hB : B ≤ W.heap.size)
    (hK : ∀ v' w', Own e w' B v' (xs ++ [u]) → W.grownBy w' v.ownBlock → K (a.put o.dst v') w') :
    if Region.wanted o (yielded ops a.tmps) = true then Oper.wp P o a W K Q else E := by
  have hw : Region.wanted o (yielded ops a.tmps) = true := by simp [Region.wanted, hg]
  rw [if_pos hw]
  obtain ⟨ht, bytes, hby, hi0, hz⟩ := hT
  obtain ⟨i, hi, hz0, hz1, hz2⟩ := info_parts hi0
  refine wp_append_own W s x t hop B e i z 1 bytes ht hi hz0 hz1 hz2 (by rw [hz]; rfl) (by decide) v xs.length xs hs hown ⟨gx, 0, none⟩ 1 1 [u] hx (by simp) (fun j y hj => ?_) (fun y hy => ?_) (by unfold maxLen; omega) ?_ hB fun v' w' h1 h2 _ => hK v' w' (by simpa [Own] using h1) h2
  · have hj0 : j = 0 := by
      rcases Nat.eq_zero_or_pos j with h | h
      · exact h
      · rw [List.getElem?_eq_none (by simp; omega)] at hj; cases hj
    subst hj0
    have : u = y := by simpa using hj
    subst this
    simp [Addr.add, World.cell?, hgx]
  · simp at hy; subst hy; exact hu
  · exact Nat.le_trans (Nat.mul_le_mul_left _ hby) (by omega)
theorem l8Meet_n (a a' : Option Addr) (zs ys : List Int) (n c c' : Nat) (w : World) (hl : zs.length = n) (hz : Rd (Value.int .i64) w a zs) (hy : Rd (Value.int .i64) w a' ys) (hn : zs.length ≤ 1048576) (hm : ys.length ≤ 1048576) :
    Calls Tryd.prog 97 #[.slice a n c, .slice a' ys.length c'] w (RetOwn 2 ((meetL zs ys).map (.int .i64)) w) := by
  subst hl; exact l8Meet_any a a' zs ys c c' w hz hy hn hm
theorem blkKept {a b : World} {g : Nat} {o : Obj} (h : Below a.heap.size a b) (hg : a.heap[g]? = some o) : b.heap[g]? = some o := by
  have hlt : g < a.heap.size := (Array.getElem?_eq_some_iff.1 hg).1
  rw [h.block g hlt]; exact hg
/-- Slices as long as the lists. -/
def LenV (vs : List Value) (C : List (List Int)) : Prop := vs.length = C.length ∧ ∀ (i : Nat) (h : i < C.length), ∃ a c, vs[i]? = some (.slice a (C[i]).length c)
theorem LenV.nil : LenV [] [] := ⟨rfl, fun i h => absurd h (Nat.not_lt_zero i)⟩
theorem LenV.app {vs us : List Value} {C D : List (List Int)} (h : LenV vs C) (k : LenV us D) : LenV (vs ++ us) (C ++ D) := by
  refine ⟨by rw [List.length_append, List.length_append, h.1, k.1], fun i hi => ?_⟩
  by_cases hc : i < C.length
  · obtain ⟨a, c, e⟩ := h.2 i hc
    exact ⟨a, c, by rw [List.getElem?_append_left (by rw [h.1]; exact hc), List.getElem_append_left hc]; exact e⟩
  · rw [List.length_append] at hi
    obtain ⟨a, c, e⟩ := k.2 (i - C.length) (by omega)
    exact ⟨a, c, by rw [List.getElem?_append_right (by rw [h.1]; omega), List.getElem_append_right (by omega), h.1]; exact e⟩
theorem LenV.one' {vs : List Value} {C : List (List Int)} (h : LenV vs C) : ∀ y ∈ vs, y.oneCell' = true := by
  intro y hy
  obtain ⟨i, hi, rfl⟩ := List.mem_iff_getElem.1 hy
  obtain ⟨a, c, e⟩ := h.2 i (by rw [← h.1]; exact hi)
  rw [List.getElem?_eq_getElem hi] at e
  injection e with e
  rw [e]; rfl
def CliqPost (C : List (List Int)) (w : World) (e : Ending) (w' : World) : Prop := ∃ v vs, e = .returned v ∧ Own 33 w' w.heap.size v (vs.map fun y : Value => y) ∧ LenV vs C ∧ Below w.heap.size w w'
theorem own_form {e : TypeId} {w : World} {B : Nat} {v : Value} {xs : List Value} (h : Own e w B v xs) (hne : 0 < xs.length) : ∃ g c, v = .slice (some ⟨g, 0, none⟩) xs.length c := by
  rcases h.form with ⟨_, h2⟩ | ⟨g, cap, spare, h2, _⟩
  · rw [h2] at hne; simp at hne
  · exact ⟨_, _, h2⟩
set_option maxRecDepth 100000 in
set_option maxHeartbeats 4000000 in
theorem l8Cliques_any (a : Option Addr) (rs : List Row) (c : Nat) (hn : Small rs) :
    ∀ (k : Nat) (set left out : List Int) (sa la oa : Option Addr) (sc lc oc : Nat) (w : World), left.length < k → left.length ≤ 16 → set.length + left.length ≤ 64 → out.length + left.length ≤ 64 → (∀ x ∈ left, 0 ≤ x ∧ x < rs.length) → RdM w a rs → Rd (Value.int .i64) w sa set → Rd (Value.int .i64) w la left → Rd (Value.int .i64) w oa out → (sa = none → sc = 0) → (oa = none → oc = 0) → left.length ≤ lc →
    Calls Tryd.prog 81 #[.agg #[.slice a rs.length c], .slice sa set.length sc, .slice la left.length lc, .slice oa out.length oc] w (CliqPost (clq (row (nums rs)) k set left out) w) := by
  intro k
  induction k with
  | zero => intro set left out sa la oa sc lc oc w h; omega
  | succ k ih =>
  intro set left out sa la oa sc lc oc w hk h16 hs64 ho64 hrng hr hs hl ho hsc hoc hlc
  have RA := hid hr; have RS := hid hs; have RL := hid hl; have RO := hid ho; have HRNG := hid hrng; have HSC := hid hsc; have HOC := hid hoc
  clear hr hs hl ho hrng hsc hoc
  obtain ⟨w0, hw0⟩ : ∃ w0, w0 = (w.alloc (.cells #[.slice a rs.length c] 29)) := ⟨_, rfl⟩
  have B0 := hid (show Below w.heap.size w w0 by rw [hw0]; exact ((Below.refl _ _).alloc (Nat.le_refl _) _))
  have c0 : w0.cell? ⟨w.heap.size, 0, none⟩ = some (.slice a rs.length c) := by rw [hw0]; simp [go_sem]
  replace RA := hid (RA.out.below B0.out (Nat.le_refl _))
  replace RS := hid (RS.out.below B0.out (Nat.le_refl _))
  replace RL := hid (RL.out.below B0.out (Nat.le_refl _))
  replace RO := hid (RO.out.below B0.out (Nat.le_refl _))
  have HW := hid hw0; clear hw0
  have hszw : w0.heap.size = w.heap.size + 1 := by rw [HW.out]; simp
  have hz0 : w.heap.size ≤ w0.heap.size := B0.out.size
  by_cases hl0 : left.length = 0
  · have hli : ((left.length : Int) == 0) = true := by rw [hl0]; rfl
    obtain rfl : left = [] := List.eq_nil_of_length_eq_zero hl0
    by_cases hoo : out.length = 0
    · have hoi : ((out.length : Int) == 0) = true := by rw [hoo]; rfl
      obtain rfl : out = [] := List.eq_nil_of_length_eq_zero hoo
      have hbA := alloc_below w0 (.cells #[.slice sa set.length sc] 33)
      have ON := hid (own_new 33 w0 [.slice sa set.length sc] (by simp [maxLen]))
      have BN := hid (B0.out.trans (hbA.mono hz0))
      have HC := hid (clq_end (row (nums rs)) k set)
      have HSZ := hid hz0
      clear hbA hl0 hoo hz0
      go_enter Tryd.func81, Tryd.ntmps81
      go_wp2
      go_ret
      refine ⟨.slice (some ⟨w.heap.size + 1, 0, none⟩) 1 1, [.slice sa set.length sc], rfl, ?_, ?_, ?_⟩
      · have h := ON.out.base (B' := w.heap.size) HSZ.out
        rw [hszw] at h
        rw [HW.out] at h
        exact h
      · rw [HC.out]
        exact ⟨rfl, fun i hi => by
          obtain rfl : i = 0 := by simpa using hi
          exact ⟨_, _, rfl⟩⟩
      · have h := BN.out
        rw [HW.out] at h
        exact h
    · have hoi : ((out.length : Int) == 0) = false := by simpa using hoo
      have HC := hid (show clq (row (nums rs)) (k + 1) set [] out = [] by
        rw [clq_go _ _ _ _ _ (fun h => hoo (by rw [h.2]; rfl))]; rfl)
      have hbA := alloc_below w0 (.cells #[] 33)
      have ON := hid (own_new 33 w0 [] (by simp [maxLen]))
      have BN := hid (B0.out.trans (hbA.mono hz0))
      have HSZ := hid hz0
      clear hbA hl0 hoo hz0
      go_enter Tryd.func81, Tryd.ntmps81
      go_wp2
      go_loopw [9, 10] (fun o x wr => o = .slice (some ⟨w.heap.size + 1, 0, none⟩) 0 0 ∧ x = .int .i64 0 ∧ wr = w0.alloc (.cells #[] 33)) (fun _ x _ => 0)
      case atStart => exact ⟨rfl, rfl, by rw [HW.out]⟩
      case round =>
        obtain ⟨rfl, rfl, rfl⟩ := hrel
        have hi0 : ¬ ((0 : Int) < ((0 : Nat) : Int)) := by decide
        go_wp2
        go_ret
        refine ⟨.slice (some ⟨w.heap.size + 1, 0, none⟩) 0 0, [], rfl, ?_, by rw [HC.out]; exact LenV.nil, BN.out⟩
        have h := ON.out.base (B' := w.heap.size) HSZ.out
        rw [hszw] at h
        exact h
  · have hli : ((left.length : Int) == 0) = false := by simpa using hl0
    have HGO := hid (clq_go (row (nums rs)) k set left out (fun h => hl0 (by rw [h.1]; rfl)))
    have hbA := alloc_below w0 (.cells #[] 33)
    have ON := hid (own_new 33 w0 [] (by simp [maxLen]))
    have BN := hid (hbA)
    clear hbA hl0
    go_enter Tryd.func81, Tryd.ntmps81
    go_wp2
    rw [← HW.out]
    go_loopw [9, 10] (fun o x wr => ∃ (i : Nat) (vs : List Value), i ≤ left.length ∧ x = .int .i64 i ∧ Own 33 wr w0.heap.size o (vs.map fun y : Value => y) ∧ LenV vs (clqTo (row (nums rs)) k set left out i) ∧ Below w0.heap.size w0 wr) (fun _ x _ => left.length - (intOf x).toNat)
    case atStart => exact ⟨0, [], Nat.zero_le _, rfl, by have h := ON.out; rw [hszw] at h ⊢; exact h, LenV.nil, BN.out⟩
    case round =>
      clear ON BN
      obtain ⟨i, vs, hi, rfl, hof, hlv, hb⟩ := hrel
      have OF := hid hof; have HLV := hid hlv; have LB := hid hb
      clear hof hlv hb
      by_cases hil : i < left.length
      · have hii : (i : Int) < (left.length : Int) := by omega
        obtain ⟨lb, lo, rfl, cl⟩ := (RL.out.below LB.out (Nat.le_refl _)) i hil
        have hxr := HRNG.out _ (List.getElem_mem hil)
        have HSU := hid (clqTo_succ (row (nums rs)) k set left out i)
        have HGX := hid (show left.getD i 0 = left[i] by rw [List.getD_eq_getElem?_getD, List.getElem?_eq_getElem hil]; rfl)
        rw [HGX.out] at HSU
        clear HGX
        have HRN2 := hid (show ∀ x ∈ meetL (left.drop (i + 1)) (row (nums rs) left[i]), 0 ≤ x ∧ x < (rs.length : Int) from fun x hx => HRNG.out x (List.mem_of_mem_drop (meetL_mem.1 hx).1))
        generalize left[i] = v at *
        obtain ⟨v, rfl⟩ := Int.eq_ofNat_of_zero_le hxr.1
        have hvn : v < rs.length := by omega
        have hvi : (v : Int) < (rs.length : Int) := by omega
        have RA2 := hid (RA.out.below LB.out (Nat.le_refl _))
        obtain ⟨ab, ao, rfl, ch, hok⟩ := RA2.out.at v hvn
        have IHN := hid (show ∀ (set left out : List Int) (ns nl no : Nat) (sa la oa : Option Addr) (sc lc oc : Nat) (w : World), set.length = ns → left.length = nl → out.length = no → (left.length < k ∧ left.length ≤ 16 ∧ set.length + left.length ≤ 64 ∧ out.length + left.length ≤ 64 ∧ (∀ x ∈ left, 0 ≤ x ∧ x < (rs.length : Int))) → RdM w (some ⟨ab, ao, none⟩) rs → Rd (Value.int .i64) w sa set → Rd (Value.int .i64) w la left → Rd (Value.int .i64) w oa out → (sa = none → sc = 0) → (oa = none → oc = 0) → left.length ≤ lc → Calls Tryd.prog 81 #[.agg #[.slice (some ⟨ab, ao, none⟩) rs.length c], .slice sa ns sc, .slice la nl lc, .slice oa no oc] w (CliqPost (clq (row (nums rs)) k set left out) w) from by
          intro set left out ns nl no sa la oa sc lc oc w e1 e2 e3 hb h1 h2 h3 h4 h5 h6 h7
          subst e1; subst e2; subst e3
          exact ih set left out sa la oa sc lc oc w hb.1 hb.2.1 hb.2.2.1 hb.2.2.2.1 hb.2.2.2.2 h1 h2 h3 h4 h5 h6 h7)
        clear ih
        have HRW := hid (row_rs rs v hvn)
        have hz1 := hn.2 _ (List.getElem_mem hvn)
        have RR := hid hok.1
        rw [HRW.out] at HSU HRN2
        clear hok HRW
        generalize rs[v] = r at *
        have RS2 := hid (RS.out.below LB.out (Nat.le_refl _))
        have RL2 := hid (RL.out.below LB.out (Nat.le_refl _))
        have RO2 := hid (RO.out.below LB.out (Nat.le_refl _))
        have cg := cellB LB.out c0 (Nat.le_refl _)
        have hsl : set.length ≤ 1048576 := by omega
        have hsm : (set.map (Value.int .i64)).length < 1099511627776 := by rw [List.length_map]; omega
        have hlc1 : ((i : Int) + 1 ≤ (left.length : Int)) := by omega
        have hlc2 : ((left.length : Int) ≤ (lc : Int)) := by omega
        have hlc3 : ((i : Int) ≤ (lc : Int)) := by omega
        have hlc4 : ((i : Int) + 1 ≤ (lc : Int)) := by omega
        have hlc5 : (0 : Int) ≤ (i : Int) := by omega
        have hlc6 : (0 : Int) ≤ (i : Int) + 1 := by omega
        have hlw : IntKind.i64.wrap ((i : Int) + 1) = (i : Int) + 1 := IntWalk.i64_in _ (by omega)
        have hdl : (left.drop (i + 1)).length = left.length - (i + 1) := List.length_drop
        obtain ⟨A, hA, hrdA⟩ : ∃ A : Addr, (if lc = i + 1 then (some ⟨lb, lo, none⟩ : Option Addr) else some ⟨lb, lo + (i + 1), none⟩) = some A ∧ Rd (Value.int .i64) wr (some A) (left.drop (i + 1)) := by
          by_cases hcap : lc = i + 1
          · exact ⟨_, if_pos hcap, by rw [List.drop_eq_nil_of_le (by omega)]; exact Rd.nil _ _ _⟩
          · exact ⟨_, if_neg hcap, RL2.out.drop (i + 1)⟩
        have RDA := hid hrdA
        clear hrdA
        have hdm : (left.drop (i + 1)).length ≤ 1048576 := by omega
        have hol : out.length ≤ 1048576 := by omega
        have htl : (left.take i).length = i := by rw [List.length_take]; omega
        have hom : (out.map (Value.int .i64)).length + i ≤ 1099511627776 := by rw [List.length_map]; omega
        have hl5 : (set ++ [(v : Int)]).length = set.length + 1 := by simp
        have hl8 : (out ++ left.take i).length = out.length + i := by rw [List.length_append, htl]
        have hom2 : (out ++ left.take i).length ≤ 1048576 := by omega
        have hm1 := meetL_len (left.drop (i + 1)) r.z
        have hm2 := meetL_len (out ++ left.take i) r.z
        have hbk : (meetL (left.drop (i + 1)) r.z).length < k ∧ (meetL (left.drop (i + 1)) r.z).length ≤ 16 ∧ (set ++ [(v : Int)]).length + (meetL (left.drop (i + 1)) r.z).length ≤ 64 ∧ (meetL (out ++ left.take i) r.z).length + (meetL (left.drop (i + 1)) r.z).length ≤ 64 ∧ (∀ x ∈ meetL (left.drop (i + 1)) r.z, 0 ≤ x ∧ x < (rs.length : Int)) := ⟨by omega, by omega, by omega, by omega, HRN2.out⟩
        have HBK := hid hbk
        have hv16 := clqTo_16 (row (nums rs)) k set left out hk h16 i hi
        have hu16 := clq_16 (row (nums rs)) k (set ++ [(v : Int)]) (meetL (left.drop (i + 1)) r.z) (meetL (out ++ left.take i) r.z) hbk.1 hbk.2.1
        clear hm1 hm2 hbk hxr
        go_wp2_with fail
        go_region_held3 (fun w' => w'.cell? ⟨w.heap.size, 0, none⟩ = some (.slice (some ⟨ab, ao, none⟩) rs.length c) ∧ w'.cell? ⟨ab, ao + v, none⟩ = some (.slice r.a r.z.length r.c)) (exact ⟨cellB (B := wr.heap.size) (by first | exact H10.out | exact H9.out | exact H8.out | exact H7.out | exact H6.out | exact H5.out | exact H4.out | exact H4.out.alloc H4.out.size _ | (repeat (first | exact Below.refl _ _ | refine belowD ?_ | refine Below.alloc ?_ (Nat.le_refl _) _))) cg (Nat.le_refl _), cellB (B := wr.heap.size) (by first | exact H10.out | exact H9.out | exact H8.out | exact H7.out | exact H6.out | exact H5.out | exact H4.out | exact H4.out.alloc H4.out.size _ | (repeat (first | exact Below.refl _ _ | refine belowD ?_ | refine Below.alloc ?_ (Nat.le_refl _) _))) ch (Nat.le_refl _)⟩) (first | (go_at_call_of 73 sa; refine (l1Copy_any2 sa set set.length sc _ rfl (RS2.out.below (B := wr.heap.size) (by first | exact H10.out | exact H9.out | exact H8.out | exact H7.out | exact H6.out | exact H5.out | exact H4.out | exact H4.out.alloc H4.out.size _ | (repeat (first | exact Below.refl _ _ | refine belowD ?_ | refine Below.alloc ?_ (Nat.le_refl _) _))) (Nat.le_refl _)) hsl HSC.out).mono ?_; rintro e w4 ⟨cv, rfl, hown, hb⟩; obtain ⟨ca4, cc4, rfl, _⟩ := Own.rd hown; have HK4 := hid hb; have O4 := hid (hown.base (B' := wr.heap.size) (Below.size (B := wr.heap.size) (w := wr) (by first | exact H10.out | exact H9.out | exact H8.out | exact H7.out | exact H6.out | exact H5.out | exact H4.out | exact H4.out.alloc H4.out.size _ | (repeat (first | exact Below.refl _ _ | refine belowD ?_ | refine Below.alloc ?_ (Nat.le_refl _) _))))); have H4 := hid (show Below wr.heap.size wr w4 from Below.trans (b := _) (by first | exact H10.out | exact H9.out | exact H8.out | exact H7.out | exact H6.out | exact H5.out | exact H4.out | exact H4.out.alloc H4.out.size _ | (repeat (first | exact Below.refl _ _ | refine belowD ?_ | refine Below.alloc ?_ (Nat.le_refl _) _))) (hb.mono (Below.size (B := wr.heap.size) (w := wr) (by first | exact H10.out | exact H9.out | exact H8.out | exact H7.out | exact H6.out | exact H5.out | exact H4.out | exact H4.out.alloc H4.out.size _ | (repeat (first | exact Below.refl _ _ | refine belowD ?_ | refine Below.alloc ?_ (Nat.le_refl _) _)))))); clear hown hb) | (refine step_pushC tI64 _ (by rfl) _ _ (by rfl) wr.heap.size _ (set.map (.int .i64)) (by rfl) (by first | exact O4.out | exact O4.out.past (alloc_below _ _) (Nat.le_refl _)) (.int .i64 (v : Int)) _ (by rfl) (by first | exact blkN _ _ _ rfl | exact blkKept HK4.out (blkN _ _ _ rfl)) (by rfl) hsm (Below.size (B := wr.heap.size) (w := wr) (by first | exact H10.out | exact H9.out | exact H8.out | exact H7.out | exact H6.out | exact H5.out | exact H4.out | exact H4.out.alloc H4.out.size _ | (repeat (first | exact Below.refl _ _ | refine belowD ?_ | refine Below.alloc ?_ (Nat.le_refl _) _)))) ?_; intro v5 w5 h1 h2; have O5 := hid (show Own 2 w5 wr.heap.size v5 ((set ++ [(v : Int)]).map (.int .i64)) by rw [List.map_append]; exact h1); have H5 := hid (show Below wr.heap.size wr w5 from Below.trans (b := _) (by first | exact H10.out | exact H9.out | exact H8.out | exact H7.out | exact H6.out | exact H5.out | exact H4.out | exact H4.out.alloc H4.out.size _ | (repeat (first | exact Below.refl _ _ | refine belowD ?_ | refine Below.alloc ?_ (Nat.le_refl _) _))) (grown_below h2 (Below.size (B := wr.heap.size) (w := wr) (by first | exact H10.out | exact H9.out | exact H8.out | exact H7.out | exact H6.out | exact H5.out | exact H4.out | exact H4.out.alloc H4.out.size _ | (repeat (first | exact Below.refl _ _ | refine belowD ?_ | refine Below.alloc ?_ (Nat.le_refl _) _)))) (fun g hg => O4.out.ge g hg))); obtain ⟨sa5, sc5, hv5, hr5, _, _, hn5, _⟩ := Own.rd O5.out; rw [hl5] at hv5; subst hv5; have R5 := hid hr5; have N5 := hid hn5; clear h1 h2 hr5 hn5) | (go_at_call_of 97 A; refine (l8Meet_n (some A) r.a (left.drop (i + 1)) r.z _ _ r.c _ hdl (RDA.out.below H5.out (Nat.le_refl _)) (RR.out.below H5.out (Nat.le_refl _)) hdm hz1).mono ?_; rintro e w6 ⟨mv, rfl, hown, hb⟩; obtain ⟨ma, mc, rfl, hrm, hmc, _, _, _⟩ := Own.rd hown; have R6 := hid hrm; have HMC := hid hmc; have HB6 := hid hb; have H6 := hid (show Below wr.heap.size wr w6 from H5.out.trans (hb.mono H5.out.size)); clear hown hb hrm hmc) | (go_at_call_of 73 oa; refine (l1Copy_any2 oa out out.length oc _ rfl (RO2.out.below H6.out (Nat.le_refl _)) hol HOC.out).mono ?_; rintro e w7 ⟨dv, rfl, hown, hb⟩; obtain ⟨da, dc, rfl, _⟩ := Own.rd hown; have O7 := hid hown; have HB7 := hid hb; have H7 := hid (show Below wr.heap.size wr w7 from H6.out.trans (hb.mono H6.out.size)); clear hown hb) | (refine step_app tI64 _ (by rfl) _ _ (by rfl) (Value.int .i64) w6.heap.size _ (out.map (.int .i64)) (by rfl) O7.out lb lo i _ (left.take i) (by rfl) htl ((RL2.out.take i).below H7.out (Nat.le_refl _)) (fun y _ => rfl) hom HB7.out.size ?_; intro v8 w8 h1 h2; have O8 := hid (show Own 2 w8 w6.heap.size v8 ((out ++ left.take i).map (.int .i64)) by rw [List.map_append]; exact h1); have HB8 := hid (show Below w6.heap.size w7 w8 from grown_below h2 HB7.out.size (fun g hg => O7.out.ge g hg)); have H8 := hid (show Below wr.heap.size wr w8 from H7.out.trans (HB8.out.mono H6.out.size)); obtain ⟨oa8, oc8, hv8, hr8, _⟩ := Own.rd O8.out; rw [hl8] at hv8; subst hv8; have R8 := hid hr8; clear h1 h2 hr8) | (go_at_call_of 97 oa8; refine (l8Meet_n oa8 r.a (out ++ left.take i) r.z _ _ r.c _ hl8 R8.out (RR.out.below H8.out (Nat.le_refl _)) hom2 hz1).mono ?_; rintro e w9 ⟨mv2, rfl, hown, hb⟩; obtain ⟨ma9, mc9, rfl, hrm, _, _, hmn9, _⟩ := Own.rd hown; have R9 := hid hrm; have N9 := hid hmn9; have HB9 := hid hb; have H9 := hid (show Below wr.heap.size wr w9 from H8.out.trans (hb.mono H8.out.size)); have H58 := hid (show w5.heap.size ≤ w8.heap.size from Nat.le_trans HB6.out.size (Nat.le_trans HB7.out.size HB8.out.size)); have H68 := hid (show w6.heap.size ≤ w8.heap.size from Nat.le_trans HB7.out.size HB8.out.size); clear hown hb hrm hmn9) | (go_at_call 81; refine (IHN.out (set ++ [(v : Int)]) (meetL (left.drop (i + 1)) r.z) (meetL (out ++ left.take i) r.z) _ _ _ sa5 ma ma9 sc5 mc mc9 _ hl5 rfl rfl HBK.out (RA2.out.below H9.out (Nat.le_refl _)) (R5.out.below (B := w5.heap.size) ((HB6.out.trans (HB7.out.mono HB6.out.size)).trans ((HB8.out.mono HB6.out.size).trans (HB9.out.mono H58.out))) (Nat.le_refl _)) (R6.out.below (B := w6.heap.size) (HB7.out.trans (HB8.out.trans (HB9.out.mono H68.out))) (Nat.le_refl _)) R9.out N5.out N9.out HMC.out).mono ?_; rintro e w10 ⟨qv, us, rfl, hown, hlu, hb⟩; obtain ⟨qa, qc, rfl, hrq, _, _, hqn, _⟩ := Own.rd hown; have RQ := hid hrq; have NQ := hid hqn; have LU := hid hlu; have H10 := hid (show Below wr.heap.size wr w10 from H9.out.trans (hb.mono H9.out.size)); clear hown hb hrq hqn hlu))
        all_goals (
          have OF2 := hid (OF.out.past H10.out (Nat.le_refl _))
          have B02 := hid (LB.out.trans (H10.out.mono LB.out.size))
          have HVL := HLV.out.1
          have HUL := LU.out.1
          have HL2 := hid (show LenV (vs ++ us) (clqTo (row (nums rs)) k set left out (i + 1)) by rw [HSU.out]; exact HLV.out.app LU.out)
          have hvl : (vs.map fun y : Value => y).length + us.length ≤ 1099511627776 := by rw [List.length_map]; omega
          clear HVL HUL cg ch R5 R6 R8 R9 O4 O5 O7 O8 H4 H5 H6 H7 H8 H9
          go_wp2_with (at_builtin; refine law_append tRows _ rfl _ _ rfl (fun y : Value => y) w0.heap.size _ (vs.map fun y : Value => y) rfl OF2.out qa qc us rfl RQ.out NQ.out ?d0 ?d1 ?d2 ?_)
          case d0 => exact LU.out.one'
          case d1 => exact hvl
          case d2 => exact B02.out.size
          intro v11 w11 h1 h2
          have ON := hid (show Own 33 w11 w0.heap.size v11 ((vs ++ us).map fun y : Value => y) by rw [hszw]; simpa using h1)
          have B11 := hid (B02.out.trans (grown_below h2 B02.out.size (fun g hg => OF2.out.ge g hg)))
          clear h1 h2
          go_wp2
          go_roundw
          case rel => exact ⟨i + 1, vs ++ us, by omega, by go_num, ON.out, HL2.out, B11.out⟩
          case measure => simp [intOf]; omega)
      · obtain rfl : i = left.length := by omega
        have hii : ¬ ((left.length : Nat) : Int) < (left.length : Int) := by omega
        go_wp2
        go_ret
        refine ⟨_, vs, rfl, OF.out.base hz0, ?_, B0.out.trans (LB.out.mono hz0)⟩
        rw [HGO.out]
        exact HLV.out
end
end
section
section
set_option maxRecDepth 100000 in
set_option maxHeartbeats 4000000 in
theorem cliquesOf_any (a : Option Addr) (rs : List Row) (c : Nat) (w : World) (hg : GOk (nums rs)) (hr : RdM w a rs) (hn : Small rs) :
    Calls Tryd.prog 42 #[.agg #[.slice a rs.length c]] w (CliqPost (clq (row (nums rs)) (rs.length + 1) [] (allL rs.length) []) w) := by
  have RA := hid hr; clear hr
  have HG := hid (show decide (GOk (nums rs)) = true from decide_eq_true hg)
  have h16 : rs.length ≤ 16 := by have := hg.le; rwa [nums_length] at this
  have hn1 := hn.1
  clear hg
  obtain ⟨w0, hw0⟩ : ∃ w0, w0 = (w.alloc (.cells #[.slice a rs.length c] 29)) := ⟨_, rfl⟩
  have B0 := hid (show Below w.heap.size w w0 by rw [hw0]; exact ((Below.refl _ _).alloc (Nat.le_refl _) _))
  have c0 : w0.cell? ⟨w.heap.size, 0, none⟩ = some (.slice a rs.length c) := by rw [hw0]; simp [go_sem]
  replace RA := hid (RA.out.below B0.out (Nat.le_refl _))
  have HW := hid hw0; clear hw0
  have hz0 : w.heap.size ≤ w0.heap.size := B0.out.size
  go_enter Tryd.func42, Tryd.ntmps42
  go_wp2_with fail
  rw [← HW.out]
  refine (specGraphOk_b a rs c _ true HG.out RA.out hn).mono ?_
  rintro e wr ⟨rfl, hb⟩
  have cg := cellB hb c0 (Nat.le_refl _)
  have RA2 := hid (RA.out.below hb (Nat.le_refl _))
  have BW := hid (bon B0.out hb)
  clear hb
  go_wp2_with fail
  have hall : (allL rs.length).length = rs.length := allL_len _
  have hbk : (allL rs.length).length < rs.length + 1 ∧ (allL rs.length).length ≤ 16 ∧ ([] : List Int).length + (allL rs.length).length ≤ 64 ∧ (∀ x ∈ allL rs.length, 0 ≤ x ∧ x < (rs.length : Int)) := ⟨by omega, by omega, by simp; omega, fun x hx => (allL_mem _ x).1 hx⟩
  have HBK := hid hbk
  clear hbk hall
  go_region_held3 (fun w' => w'.cell? ⟨w.heap.size, 0, none⟩ = some (.slice a rs.length c)) (exact cellB (B := wr.heap.size) (by first | exact H6.out | exact H5.out | exact H5.out.alloc H5.out.size _ | exact (H5.out.alloc H5.out.size _).alloc (Nat.le_trans H5.out.size (alloc_below _ _).size) _ | exact H4.out | exact H4.out.alloc H4.out.size _ | exact (H4.out.alloc H4.out.size _).alloc (Nat.le_trans H4.out.size (alloc_below _ _).size) _ | (repeat (first | exact Below.refl _ _ | refine belowD ?_ | refine Below.alloc ?_ (by first | exact Nat.le_refl _ | (simp; done) | (simp; omega)) _))) cg (Nat.le_refl _)) (first | (go_at_call 53; refine (l1Size_any _ _ _ _ hn1).mono ?_; rintro e w4 ⟨rfl, hb⟩; have H4 := hid (show Below wr.heap.size wr w4 from Below.trans (b := _) (by repeat (first | exact Below.refl _ _ | refine belowD ?_ | refine Below.alloc ?_ (by first | exact Nat.le_refl _ | (simp; done) | (simp; omega)) _)) (hb.mono (Below.size (B := wr.heap.size) (w := wr) (by repeat (first | exact Below.refl _ _ | refine belowD ?_ | refine Below.alloc ?_ (by first | exact Nat.le_refl _ | (simp; done) | (simp; omega)) _))))); clear hb) | (go_at_call 52; refine (l1All_any _ _ h16).mono ?_; rintro e w5 ⟨lv, rfl, hown, hb⟩; obtain ⟨la, lc, rfl, hrl, hlc, _⟩ := Own.rd hown; have R5 := hid hrl; have HLC := hid hlc; have H5 := hid (show Below wr.heap.size wr w5 from Below.trans (b := _) (by first | exact H4.out | exact H4.out.alloc H4.out.size _ | exact (H4.out.alloc H4.out.size _).alloc (Nat.le_trans H4.out.size (alloc_below _ _).size) _) (hb.mono (Below.size (B := wr.heap.size) (w := wr) (by first | exact H4.out | exact H4.out.alloc H4.out.size _ | exact (H4.out.alloc H4.out.size _).alloc (Nat.le_trans H4.out.size (alloc_below _ _).size) _)))); clear hown hb hrl hlc) | (go_at_call 81; refine (l8Cliques_any a rs c hn (rs.length + 1) [] (allL rs.length) [] _ la _ _ lc _ _ HBK.out.1 HBK.out.2.1 HBK.out.2.2.1 HBK.out.2.2.1 HBK.out.2.2.2 (RA2.out.below (B := wr.heap.size) (by first | exact H5.out | exact H5.out.alloc H5.out.size _ | exact (H5.out.alloc H5.out.size _).alloc (Nat.le_trans H5.out.size (alloc_below _ _).size) _) (Nat.le_refl _)) (Rd.nil _ _ _) (R5.out.below (B := w5.heap.size) (by first | exact Below.refl _ _ | exact alloc_below _ _ | exact (alloc_below _ _).trans ((alloc_below _ _).mono (alloc_below _ _).size)) (Nat.le_refl _)) (Rd.nil _ _ _) (fun h => by cases h) (fun h => by cases h) HLC.out).mono ?_; rintro e w6 ⟨qv, us, rfl, hown, hlu, hb⟩; have O6 := hid (hown.base (B' := wr.heap.size) (Below.size (B := wr.heap.size) (w := wr) (by first | exact H5.out | exact H5.out.alloc H5.out.size _ | exact (H5.out.alloc H5.out.size _).alloc (Nat.le_trans H5.out.size (alloc_below _ _).size) _))); have LU := hid hlu; have H6 := hid (show Below wr.heap.size wr w6 from Below.trans (b := _) (by first | exact H5.out | exact H5.out.alloc H5.out.size _ | exact (H5.out.alloc H5.out.size _).alloc (Nat.le_trans H5.out.size (alloc_below _ _).size) _) (hb.mono (Below.size (B := wr.heap.size) (w := wr) (by first | exact H5.out | exact H5.out.alloc H5.out.size _ | exact (H5.out.alloc H5.out.size _).alloc (Nat.le_trans H5.out.size (alloc_below _ _).size) _)))); obtain ⟨qa, qc, rfl, _⟩ := Own.rd hown; clear hown hb hlu))
  all_goals (
    have OF := hid (O6.out.base BW.out.size)
    have BF := hid (bon BW.out H6.out)
    clear R5 H4 H5 O6 cg
    go_wp2
    go_ret
    exact ⟨_, us, rfl, OF.out, LU.out, BF.out⟩)
theorem mostL_take (C : List (List Int)) (k : Nat) (h : k < C.length) : mostL (C.take (k + 1)) = if mostL (C.take k) < C[k].length then C[k].length else mostL (C.take k) := by
  rw [List.take_succ_eq_append_getElem h, mostL_snoc]
set_option maxRecDepth 100000 in
set_option maxHeartbeats 4000000 in
theorem w9Clique_any (a : Option Addr) (rs : List Row) (c : Nat) (w : World) (hg : GOk (nums rs)) (hr : RdM w a rs) (hn : Small rs) :
    Calls Tryd.prog 12 #[.agg #[.slice a rs.length c]] w fun e w' => e = .returned (.int .i64 (mostL (clq (row (nums rs)) (rs.length + 1) [] (allL rs.length) []) : Nat)) ∧ Below w.heap.size w w' := by
  have RA := hid hr; have HG := hid hg; clear hr hg
  have h16 : rs.length ≤ 16 := by have := HG.out.le; rwa [nums_length] at this
  have hcl := clq_16 (row (nums rs)) (rs.length + 1) [] (allL rs.length) [] (by rw [allL_len]; omega) (by rw [allL_len]; omega)
  obtain ⟨C, hC⟩ : ∃ C, clq (row (nums rs)) (rs.length + 1) [] (allL rs.length) [] = C := ⟨_, rfl⟩
  have hbig : ∀ q ∈ C, q.length ≤ 16 := by
    intro q hq
    rw [← hC] at hq
    obtain ⟨h1, h2⟩ := clq_sound (R := row (nums rs)) (P := fun x => 0 ≤ x ∧ x < (rs.length : Int)) (rs.length + 1) [] (allL rs.length) [] .nil (fun s hs => by cases hs) (fun x hx => (allL_mem _ x).1 hx) (fun s hs => by cases hs) q hq
    have hg := HG.out
    have hnd : (q.map Int.toNat).Nodup := by
      unfold List.Nodup
      rw [List.pairwise_map]
      refine (List.Pairwise.and_mem.1 h1).imp ?_
      rintro x y ⟨hx, hy, hxy⟩ e
      have hx1 := h2 x hx
      have hy1 := h2 y hy
      obtain rfl : x = y := by omega
      obtain ⟨i, rfl⟩ := Int.eq_ofNat_of_zero_le hx1.1
      exact hg.irr i (by rw [nums_length]; omega) hxy
    have h3 := nodup_leL (L := rs.length) hnd (fun x hx => by
      obtain ⟨y, hy, rfl⟩ := List.mem_map.1 hx
      have := h2 y hy; omega)
    rw [List.length_map] at h3; omega
  have HC := hid hC; have HBIG := hid hbig
  rw [hC] at hcl ⊢
  clear hC hbig
  obtain ⟨w0, hw0⟩ : ∃ w0, w0 = (w.alloc (.cells #[.slice a rs.length c] 29)) := ⟨_, rfl⟩
  have B0 := hid (show Below w.heap.size w w0 by rw [hw0]; exact ((Below.refl _ _).alloc (Nat.le_refl _) _))
  have c0 : w0.cell? ⟨w.heap.size, 0, none⟩ = some (.slice a rs.length c) := by rw [hw0]; simp [go_sem]
  replace RA := hid (RA.out.below B0.out (Nat.le_refl _))
  have HW := hid hw0; clear hw0
  go_enter Tryd.func12, Tryd.ntmps12
  go_wp2_with fail
  rw [← HW.out]
  refine (cliquesOf_any a rs c _ HG.out RA.out hn).mono ?_
  rintro e w1 ⟨qv, us, rfl, hown, hlu, hb⟩
  rw [HC.out] at hlu
  obtain ⟨qa, qc, rfl, hrq, _⟩ := Own.rd hown
  have RQ := hid hrq; have LU := hid hlu; have B1 := hid (bon B0.out hb)
  have hul : us.length = C.length := hlu.1
  clear hown hrq hlu hb
  go_wp2
  go_loop [3, 5] (fun b x => ∃ k : Nat, k ≤ us.length ∧ x = .int .i64 k ∧ b = .int .i64 (mostL (C.take k) : Nat)) (fun _ x => us.length - (intOf x).toNat)
  case atStart => exact ⟨0, Nat.zero_le _, rfl, rfl⟩
  case round =>
    obtain ⟨k, hk, rfl, rfl⟩ := hrel
    by_cases hkl : k < us.length
    · have hki : (k : Int) < (us.length : Int) := by omega
      obtain ⟨qb, qo, rfl, ck⟩ := RQ.out k hkl
      have hkc : k < C.length := by omega
      obtain ⟨ra, rc, hus⟩ := LU.out.2 k hkc
      rw [List.getElem?_eq_getElem hkl] at hus
      injection hus with hus
      have ck2 : w1.cell? ⟨qb, qo + k, none⟩ = some (.slice ra (C[k]).length rc) := by rw [ck, hus]
      have HM := hid (mostL_take C k hkc)
      clear ck hus
      by_cases hgt : mostL (C.take k) < C[k].length
      · have hgi : ((mostL (C.take k) : Nat) : Int) < ((C[k].length : Nat) : Int) := by omega
        have HM2 := hid (show mostL (C.take (k + 1)) = C[k].length by rw [HM.out, if_pos hgt])
        clear hgt HM
        generalize mostL (C.take k) = m at *
        generalize C[k].length = q at *
        go_wp2
        go_round
        case rel => exact ⟨k + 1, by omega, by go_num, by rw [HM2.out]⟩
        case measure => simp [intOf]; omega
      · have hgi : ¬ ((mostL (C.take k) : Nat) : Int) < ((C[k].length : Nat) : Int) := by omega
        have HM2 := hid (show mostL (C.take (k + 1)) = mostL (C.take k) by rw [HM.out, if_neg hgt])
        clear hgt HM
        generalize mostL (C.take k) = m at *
        generalize C[k].length = q at *
        go_wp2
        go_round
        case rel => exact ⟨k + 1, by omega, by go_num, by rw [HM2.out]⟩
        case measure => simp [intOf]; omega
    · obtain rfl : k = us.length := by omega
      have HM := hid (show mostL (C.take us.length) = mostL C by rw [hul, List.take_length])
      have hki : ¬ ((us.length : Nat) : Int) < (us.length : Int) := by omega
      rw [HM.out]
      go_wp2
      go_ret
      exact ⟨rfl, B1.out⟩
end
end
end Go.Proofs.YtdncmloajajiaaaDoor
