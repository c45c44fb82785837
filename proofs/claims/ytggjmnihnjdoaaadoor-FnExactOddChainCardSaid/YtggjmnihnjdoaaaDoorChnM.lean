/- Chains of arrows: plain. A search in breadth finds the least of the shortest ones. -/
import Derived.Test.YtggjmnihnjdoaaaDoorForM
namespace Go.Proofs.YtggjmnihnjdoaaaDoor
open Go.RowKit
section
/-- Is y met, e steps from the first? -/
def Met (Q : List (Nat × Nat)) (y e : Nat) : Prop := (y, e) ∈ Q
theorem QOk.uniq {Q : List (Nat × Nat)} (h : QOk Q) {y d e : Nat} (h1 : (y, d) ∈ Q) (h2 : (y, e) ∈ Q) : d = e := by
  obtain ⟨i, hi, e1⟩ := List.mem_iff_getElem.1 h1
  obtain ⟨j, hj, e2⟩ := List.mem_iff_getElem.1 h2
  have hij : i = j := by
    rcases Nat.lt_trichotomy i j with h3 | h3 | h3
    · have := List.pairwise_iff_getElem.1 h.1 i j (by simpa using hi) (by simpa using hj) h3
      simp [e1, e2] at this
    · exact h3
    · have := List.pairwise_iff_getElem.1 h.1 j i (by simpa using hj) (by simpa using hi) h3
      simp [e1, e2] at this
  subst hij
  rw [e1] at e2
  injection e2
theorem addQ_all {d : Nat} {Q : List (Nat × Nat)} {y : Nat} (p : Nat × Nat) : p ∈ addQ d Q y → p ∈ Q ∨ p = (y, d) := by
  unfold addQ
  split
  · exact .inl
  · intro h; simpa using h
theorem addAll_all {d : Nat} : ∀ {L : List Nat} {Q : List (Nat × Nat)} (p : Nat × Nat), p ∈ addAll d Q L → p ∈ Q ∨ (p.1 ∈ L ∧ p.2 = d)
  | [], _, p, h => .inl h
  | y :: L, Q, p, h => by
    rcases addAll_all (L := L) (Q := addQ d Q y) p h with h1 | ⟨h1, h2⟩
    · rcases addQ_all p h1 with h2 | h2
      · exact .inl h2
      · subst h2; exact .inr ⟨by simp, rfl⟩
    · exact .inr ⟨by simp [h1], h2⟩
theorem addQ_rise {d : Nat} {Q : List (Nat × Nat)} {y : Nat} (hs : Q.Pairwise (fun a b => a.2 ≤ b.2)) (hd : ∀ p ∈ Q, p.2 ≤ d) : (addQ d Q y).Pairwise (fun a b => a.2 ≤ b.2) := by
  unfold addQ
  split
  · exact hs
  · rw [List.pairwise_append]
    refine ⟨hs, by simp, fun a ha b hb => ?_⟩
    simp at hb
    subst hb
    exact hd a ha
theorem addAll_rise {d : Nat} : ∀ {L : List Nat} {Q : List (Nat × Nat)}, Q.Pairwise (fun a b => a.2 ≤ b.2) → (∀ p ∈ Q, p.2 ≤ d) → (addAll d Q L).Pairwise (fun a b => a.2 ≤ b.2)
  | [], _, h, _ => h
  | y :: L, Q, h, hd => addAll_rise (L := L) (addQ_rise h hd) (fun p hp => by
      rcases addQ_all p hp with h1 | h1
      · exact hd p h1
      · subst h1; exact Nat.le_refl _)
/-- The distances rise along the list, and none is more than one above the one whose turn it is. -/
theorem bq_rise (A : List Nat) (x : Nat) : ∀ k, (bq A x k).Pairwise (fun a b => a.2 ≤ b.2) ∧ (∀ (hk : k < (bq A x k).length), ∀ p ∈ bq A x k, p.2 ≤ ((bq A x k)[k]).2 + 1)
  | 0 => by
    refine ⟨by simp [bq], fun hk p hp => ?_⟩
    simp [bq] at hp
    subst hp
    exact Nat.zero_le _
  | k + 1 => by
    obtain ⟨h1, h2⟩ := bq_rise A x k
    by_cases hk : k < (bq A x k).length
    · have hb := h2 hk
      have hs : (bq A x (k + 1)).Pairwise (fun a b => a.2 ≤ b.2) := by
        rw [bq_some hk]; exact addAll_rise h1 hb
      refine ⟨hs, fun hk1 p hp => ?_⟩
      have hall : p.2 ≤ ((bq A x k)[k]).2 + 1 := by
        rw [bq_some hk] at hp
        rcases addAll_all p hp with h3 | ⟨_, h3⟩
        · exact hb p h3
        · omega
      have h4 := List.pairwise_iff_getElem.1 hs k (k + 1) (by omega) hk1 (by omega)
      rw [prefix_get (bq_pre A x k) hk (by omega)] at h4
      omega
    · have he : bq A x (k + 1) = bq A x k := bq_stay (k := k) (by omega) (k + 1) (by omega)
      refine ⟨by rw [he]; exact h1, fun hk1 => ?_⟩
      exact absurd hk1 (by rw [he]; omega)
/-- Whoever has had its turn: all that it forces are at most one step further. -/
theorem bq_near {A : List Nat} {x : Nat} : ∀ k i, i < k → ∀ (hi : i < (bq A x k).length), ∀ y ∈ frL A ((bq A x k)[i]).1, ∃ e, (y, e) ∈ bq A x k ∧ e ≤ ((bq A x k)[i]).2 + 1
  | 0, i, hik => fun _ => absurd hik (Nat.not_lt_zero i)
  | k + 1, i, hik => by
    intro hi y hy
    by_cases hk : k < (bq A x k).length
    · have hki : i < (bq A x k).length := by omega
      rw [prefix_get (bq_pre A x k) hki hi] at hy ⊢
      by_cases e : i = k
      · subst e
        have hm : y ∈ (bq A x (i + 1)).map Prod.fst := by rw [bq_some hk, addAll_mem]; exact .inr hy
        obtain ⟨p, hp, rfl⟩ := List.mem_map.1 hm
        refine ⟨p.2, hp, ?_⟩
        rw [bq_some hk] at hp
        rcases addAll_all p hp with h3 | ⟨_, h3⟩
        · exact (bq_rise A x i).2 hk p h3
        · omega
      · obtain ⟨e1, h1, h2⟩ := bq_near k i (by omega) hki y hy
        exact ⟨e1, (bq_pre A x k).subset h1, h2⟩
    · have he : bq A x (k + 1) = bq A x k := bq_stay (k := k) (by omega) (k + 1) (by omega)
      have hki : i < (bq A x k).length := by rw [← he]; exact hi
      rw [prefix_get (bq_pre A x k) hki hi] at hy ⊢
      rw [he]
      exact bq_near k i (by omega) hki y hy
theorem bqE_near {A : List Nat} {x : Nat} (hx : x < 256) {p d y : Nat} (hp : (p, d) ∈ bqE A x) (hy : y ∈ frL A p) : ∃ e, (y, e) ∈ bqE A x ∧ e ≤ d + 1 := by
  have key : ∀ N, (bq A x N).length ≤ N → (p, d) ∈ bq A x N → ∃ e, (y, e) ∈ bq A x N ∧ e ≤ d + 1 := by
    intro N hN hpN
    obtain ⟨i, hi, e⟩ := List.mem_iff_getElem.1 hpN
    have h1 := bq_near (A := A) (x := x) N i (Nat.lt_of_lt_of_le hi hN) hi y
    rw [e] at h1
    exact h1 hy
  unfold bqE at hp ⊢
  exact key 256 (bq_ok hx 256).len hp
/-- Who came later came from one step nearer. -/
theorem bq_from (A : List Nat) (x : Nat) : ∀ k, ∀ p ∈ bq A x k, (p = (x, 0)) ∨ ∃ q ∈ bq A x k, p.2 = q.2 + 1 ∧ p.1 ∈ frL A q.1
  | 0 => by intro p hp; simp [bq] at hp; exact .inl hp
  | k + 1 => by
    intro p hp
    by_cases hk : k < (bq A x k).length
    · rw [bq_some hk] at hp
      rcases addAll_all p hp with h3 | ⟨h3, h4⟩
      · rcases bq_from A x k p h3 with h5 | ⟨q, hq, h5⟩
        · exact .inl h5
        · exact .inr ⟨q, (bq_pre A x k).subset hq, h5⟩
      · exact .inr ⟨_, (bq_pre A x k).subset (List.getElem_mem hk), h4, h3⟩
    · have he : bq A x (k + 1) = bq A x k := bq_stay (k := k) (by omega) (k + 1) (by omega)
      rw [he] at hp ⊢
      exact bq_from A x k p hp
/-- What a search from t knows of the steps to t. -/
structure DisN (A : List Nat) (t : Nat) (Q : List (Nat × Nat)) : Prop where
  ok : QOk Q
  zero : ∀ y, (y, 0) ∈ Q ↔ y = t
  edge : ∀ p ∈ Q, edA A p.1 = true
  up : ∀ x y e, edA A x = true → y ∈ frL A x → (y, e) ∈ Q → ∃ d, (x, d) ∈ Q ∧ d ≤ e + 1
  down : ∀ x e, (x, e + 1) ∈ Q → ∃ z ∈ frL A x, (z, e) ∈ Q
theorem disN {n : Nat} {A : List Nat} (h : GA n A) {t : Nat} (ht : edA A t = true) : DisN A t (bqE A t) := by
  have h256 := edA_256 h ht
  have hok := bq_ok (A := A) h256 256
  have hfirst : (t, 0) ∈ bqE A t := by
    have : ∀ k, bq A t 0 <+: bq A t k := by
      intro k
      induction k with
      | zero => exact List.prefix_refl _
      | succ k ih => exact ih.trans (bq_pre A t k)
    exact (this 256).subset (by simp [bq])
  have hedge : ∀ p ∈ bqE A t, edA A p.1 = true := fun p hp => bqE_conn (fun p => edA A p = true) ht (fun p y _ hy => frB_edge h ((mem_frL' h).1 hy)) p.1 (List.mem_map.2 ⟨p, hp, rfl⟩)
  refine ⟨hok, fun y => ⟨fun hy => ?_, fun hy => by rw [hy]; exact hfirst⟩, hedge, fun x y e hx hy hye => ?_, fun x e hxe => ?_⟩
  · rcases bq_from A t 256 (y, 0) hy with h1 | ⟨q, _, h1, _⟩
    · injection h1
    · simp at h1
  · have hf := frB_sym h hx ((mem_frL' h).1 hy)
    exact bqE_near h256 hye ((mem_frL' h).2 hf)
  · rcases bq_from A t 256 (x, e + 1) hxe with h1 | ⟨q, hq, h1, h2⟩
    · injection h1 with _ h1; simp at h1
    · have h3 := frB_sym h (hedge q hq) ((mem_frL' h).1 h2)
      refine ⟨q.1, (mem_frL' h).2 h3, ?_⟩
      simp at h1
      rw [h1]
      exact hq
/-- The first of them at that distance. -/
def hopN (R : List Nat) (Q : List (Nat × Nat)) (e : Nat) : Nat := (R.find? fun y => decide ((y, e) ∈ Q)).getD 0
def downN (A : List Nat) (Q : List (Nat × Nat)) : Nat → Nat → List Nat
  | 0, x => [x]
  | d + 1, x => x :: downN A Q d (hopN (frL A x) Q d)
theorem downN_succ (A : List Nat) (Q : List (Nat × Nat)) (d x : Nat) : downN A Q (d + 1) x = x :: downN A Q d (hopN (frL A x) Q d) := rfl
theorem hopN_at {R : List Nat} {Q : List (Nat × Nat)} {e k : Nat} (hk : k < R.length) (h : ∀ j (hj : j < k), (R[j]'(by omega), e) ∉ Q) (hp : (R[k], e) ∈ Q) : hopN R Q e = R[k] := by
  unfold hopN
  have : R.find? (fun y => decide ((y, e) ∈ Q)) = some R[k] := by
    rw [List.find?_eq_some_iff_getElem]
    refine ⟨by simpa using hp, k, hk, rfl, fun j hj => ?_⟩
    simpa using h j hj
  rw [this]; rfl
theorem hopN_spec {R : List Nat} {Q : List (Nat × Nat)} {e : Nat} (h : ∃ z ∈ R, (z, e) ∈ Q) : hopN R Q e ∈ R ∧ (hopN R Q e, e) ∈ Q := by
  unfold hopN
  cases hf : R.find? (fun y => decide ((y, e) ∈ Q)) with
  | none =>
    obtain ⟨z, hz, hze⟩ := h
    have := List.find?_eq_none.1 hf z hz
    simp at this
    exact absurd hze this
  | some y =>
    have h1 := List.mem_of_find?_eq_some hf
    have h2 := List.find?_some hf
    exact ⟨h1, by simpa using h2⟩
theorem downN_len (A : List Nat) (Q : List (Nat × Nat)) (d x : Nat) : (downN A Q d x).length = d + 1 := by
  induction d generalizing x with
  | zero => rfl
  | succ d ih => rw [downN_succ, List.length_cons, ih]
/-- What a search from u knows: the list M, the ways P. -/
structure Bfn (A : List Nat) (u : Nat) (M : List Nat) (P : List (List Nat)) (par : Nat → Nat) (i : Nat) (Z : List Nat) : Prop where
  len : P.length = M.length
  pos : 0 < M.length
  first : M.getD 0 0 = u ∧ P.getD 0 [] = [u]
  nod : M.Nodup
  edge : ∀ x ∈ M, edA A x = true
  path : ∀ k, 0 < k → k < M.length → par k < k ∧ (par k < i ∨ (par k = i ∧ M.getD k 0 ∈ Z)) ∧ M.getD k 0 ∈ frL A (M.getD (par k) 0) ∧ P.getD k [] = P.getD (par k) [] ++ [M.getD k 0]
  mono : ∀ k k', 0 < k → k < k' → k' < M.length → par k < par k' ∨ (par k = par k' ∧ M.getD k 0 < M.getD k' 0)
  done : ∀ q, q < i → ∀ x ∈ frL A (M.getD q 0), ∃ k, k < M.length ∧ M.getD k 0 = x ∧ (k = 0 ∨ par k ≤ q)
  part : ∀ x ∈ Z, ∃ k, k < M.length ∧ M.getD k 0 = x ∧ (k = 0 ∨ par k ≤ i)
variable {A : List Nat} {u : Nat} {M : List Nat} {P : List (List Nat)} {par : Nat → Nat} {i : Nat} {Z : List Nat}
theorem getDn_mem {M : List Nat} {k : Nat} (h : k < M.length) : M.getD k 0 ∈ M := by rw [getD_in h]; exact List.getElem_mem h
theorem getDn_snoc (M : List Nat) (y : Nat) (k : Nat) (h : k ≤ M.length) : (M ++ [y]).getD k 0 = if k < M.length then M.getD k 0 else y := by
  split
  · rename_i h1; rw [getD_in (by simp; omega), getD_in h1, List.getElem_append_left h1]
  · obtain rfl : k = M.length := by omega
    rw [getD_in (by simp)]; simp
theorem getDn_snocP (P : List (List Nat)) (y : List Nat) (k : Nat) (h : k ≤ P.length) : (P ++ [y]).getD k [] = if k < P.length then P.getD k [] else y := by
  rw [List.getD_eq_getElem?_getD, List.getD_eq_getElem?_getD]
  split
  · rename_i h1; rw [List.getElem?_append_left h1]
  · obtain rfl : k = P.length := by omega
    simp
theorem Bfn.start (hu : edA A u = true) : Bfn A u [u] [[u]] (fun _ => 0) 0 [] where
  len := rfl
  pos := by simp
  first := ⟨rfl, rfl⟩
  nod := by simp
  edge := by intro x hx; simp at hx; subst hx; exact hu
  path := by intro k h0 h1; simp at h1; omega
  mono := by intro k k' h0 h1 h2; simp at h2; omega
  done := by intro q hq; omega
  part := by intro x hx; cases hx
theorem Bfn.skip (h : Bfn A u M P par i Z) (y : Nat) (hy : y ∈ M) : Bfn A u M P par i (Z ++ [y]) where
  len := h.len
  pos := h.pos
  first := h.first
  nod := h.nod
  edge := h.edge
  path := fun k h0 hk => by
    obtain ⟨h1, h2, h3⟩ := h.path k h0 hk
    exact ⟨h1, h2.imp id (fun h4 => ⟨h4.1, List.mem_append_left _ h4.2⟩), h3⟩
  mono := h.mono
  done := h.done
  part := by
    intro x hx
    rcases List.mem_append.1 hx with h1 | h1
    · exact h.part x h1
    · simp at h1
      subst h1
      obtain ⟨k, hk, rfl⟩ := List.mem_iff_getElem.1 hy
      refine ⟨k, hk, getD_in hk, ?_⟩
      rcases Nat.eq_zero_or_pos k with h0 | h0
      · exact .inl h0
      · obtain ⟨_, h2, _⟩ := h.path k h0 hk
        exact .inr (by omega)
theorem Bfn.take (h : Bfn A u M P par i Z) (y : Nat) (hi : i < M.length) (hyM : y ∉ M) (hye : edA A y = true) (hyr : y ∈ frL A (M.getD i 0)) (hZ : ∀ z ∈ Z, z < y) :
    Bfn A u (M ++ [y]) (P ++ [P.getD i [] ++ [y]]) (fun k => if k < M.length then par k else i) i (Z ++ [y]) := by
  have hM : ∀ k, k < M.length → (M ++ [y]).getD k 0 = M.getD k 0 := fun k hk => by rw [getDn_snoc M y k (by omega), if_pos hk]
  have hP : ∀ k, k < M.length → (P ++ [P.getD i [] ++ [y]]).getD k [] = P.getD k [] := fun k hk => by rw [getDn_snocP _ _ k (by rw [h.len]; omega), if_pos (by rw [h.len]; exact hk)]
  have hMl : (M ++ [y]).getD M.length 0 = y := by rw [getDn_snoc M y _ (Nat.le_refl _), if_neg (Nat.lt_irrefl _)]
  have hPl : (P ++ [P.getD i [] ++ [y]]).getD M.length [] = P.getD i [] ++ [y] := by rw [getDn_snocP _ _ _ (by rw [h.len]; exact Nat.le_refl _), if_neg (by rw [h.len]; exact Nat.lt_irrefl _)]
  have hpos := h.pos
  refine ⟨by simp [h.len], by simp, ⟨by rw [hM 0 hpos]; exact h.first.1, by rw [hP 0 hpos]; exact h.first.2⟩, ?_, ?_, ?_, ?_, ?_, ?_⟩
  · rw [List.nodup_append]
    refine ⟨h.nod, by simp, fun a ha b hb e => ?_⟩
    simp at hb
    subst hb; subst e
    exact hyM ha
  · intro x hx
    rcases List.mem_append.1 hx with h1 | h1
    · exact h.edge x h1
    · simp at h1; subst h1; exact hye
  · intro k h0 hk
    simp at hk
    by_cases hl : k < M.length
    · obtain ⟨h1, h2, h3, h4⟩ := h.path k h0 hl
      simp only [if_pos hl]
      rw [hM k hl, hM _ (by omega), hP k hl, hP _ (by omega)]
      exact ⟨h1, h2.imp id (fun h5 => ⟨h5.1, List.mem_append_left _ h5.2⟩), h3, h4⟩
    · obtain rfl : k = M.length := by omega
      simp only [if_neg (Nat.lt_irrefl _)]
      rw [hMl, hPl, hM i hi, hP i hi]
      exact ⟨hi, .inr ⟨trivial, by simp⟩, hyr, rfl⟩
  · intro k k' h0 hkk hk'
    simp at hk'
    by_cases hl : k' < M.length
    · have hl2 : k < M.length := by omega
      simp only [if_pos hl, if_pos hl2]
      rw [hM k hl2, hM k' hl]
      exact h.mono k k' h0 hkk hl
    · obtain rfl : k' = M.length := by omega
      simp only [if_pos hkk, if_neg (Nat.lt_irrefl _)]
      rw [hMl, hM k hkk]
      obtain ⟨_, h2, _⟩ := h.path k h0 hkk
      rcases h2 with h2 | ⟨h2, h3⟩
      · exact .inl h2
      · exact .inr ⟨h2, hZ _ h3⟩
  · intro q hq x hx
    rw [hM q (by omega)] at hx
    obtain ⟨k, hk, h1, h2⟩ := h.done q hq x hx
    refine ⟨k, by simp; omega, by rw [hM k hk]; exact h1, ?_⟩
    simp only [if_pos hk]; exact h2
  · intro x hx
    rcases List.mem_append.1 hx with h1 | h1
    · obtain ⟨k, hk, h2, h3⟩ := h.part x h1
      refine ⟨k, by simp; omega, by rw [hM k hk]; exact h2, ?_⟩
      simp only [if_pos hk]; exact h3
    · simp at h1
      subst h1
      refine ⟨M.length, by simp, hMl, .inr ?_⟩
      simp
theorem Bfn.leave (h : Bfn A u M P par i (frL A (M.getD i 0))) : Bfn A u M P par (i + 1) [] where
  len := h.len
  pos := h.pos
  first := h.first
  nod := h.nod
  edge := h.edge
  path := fun k h0 hk => by
    obtain ⟨h1, h2, h3⟩ := h.path k h0 hk
    exact ⟨h1, .inl (by omega), h3⟩
  mono := h.mono
  done := fun q hq x hx => by
    by_cases e : q = i
    · subst e; exact h.part x hx
    · exact h.done q (by omega) x hx
  part := by intro x hx; cases hx
theorem getDn_inj {M : List Nat} (hn : M.Nodup) {a b : Nat} (ha : a < M.length) (hb : b < M.length) (h : M.getD a 0 = M.getD b 0) : a = b := by
  rw [getD_in ha, getD_in hb] at h
  rcases Nat.lt_trichotomy a b with h1 | h1 | h1
  · exact absurd h (List.pairwise_iff_getElem.1 hn a b ha hb h1)
  · exact h1
  · exact absurd h.symm (List.pairwise_iff_getElem.1 hn b a hb ha h1)
/-- The way that is found is the least one down the distances. -/
theorem Bfn.found (h : Bfn A u M P par i []) {t : Nat} {Q : List (Nat × Nat)} (hQ : DisN A t Q) (hi : i < M.length) (hmv : M.getD i 0 = t) :
    ∃ d : Nat, (u, d) ∈ Q ∧ P.getD i [] = downN A Q d u := by
  suffices H : ∀ (q : Nat), ∀ (e : Nat) (T : List Nat), q ≤ i → (M.getD q 0, e) ∈ Q → P.getD i [] = P.getD q [] ++ T → downN A Q e (M.getD q 0) = M.getD q 0 :: T →
      (∀ r, r < q → ∀ d, (M.getD r 0, d) ∈ Q → e < d) → ∃ d : Nat, (u, d) ∈ Q ∧ P.getD i [] = downN A Q d u by
    refine H i 0 [] (Nat.le_refl _) ?_ (by simp) rfl ?_
    · rw [hmv]; exact (hQ.zero t).2 rfl
    · intro r hr d hd
      apply Nat.pos_of_ne_zero
      intro h0
      subst h0
      have h3 := (hQ.zero _).1 hd
      have := getDn_inj h.nod (show r < M.length by omega) hi (by rw [h3, hmv])
      omega
  intro q
  induction q using Nat.strongRecOn with
  | ind q ih =>
    intro e T hq hf hp hd hK
    rcases Nat.eq_zero_or_pos q with h0 | h0
    · subst h0
      rw [h.first.1] at hf hd
      rw [h.first.2] at hp
      refine ⟨e, hf, ?_⟩
      rw [hp, hd]; rfl
    · obtain ⟨h1, _, h3, h4⟩ := h.path q h0 (by omega)
      obtain ⟨d, hdp, hle⟩ := hQ.up (M.getD (par q) 0) (M.getD q 0) e (h.edge _ (getDn_mem (by omega))) h3 hf
      have hge := hK (par q) h1 d hdp
      obtain rfl : d = e + 1 := by omega
      obtain ⟨x, hx, hxe⟩ := List.mem_iff_getElem.1 h3
      have hhop : hopN (frL A (M.getD (par q) 0)) Q e = M.getD q 0 := by
        rw [← hxe]
        refine hopN_at hx ?_ (by rw [hxe]; exact hf)
        intro j hj hc
        have hlt := List.pairwise_iff_getElem.1 (frL_sorted A (M.getD (par q) 0)) j x (by omega) hx hj
        rw [hxe] at hlt
        have hzm := List.getElem_mem (l := frL A (M.getD (par q) 0)) (n := j) (by omega)
        generalize (frL A (M.getD (par q) 0))[j] = z at *
        obtain ⟨r, hr, hrz, hr0⟩ := h.done (par q) (by omega) z hzm
        have hrlt : r < q := by
          rcases hr0 with hr0 | hr0
          · omega
          · apply Classical.byContradiction
            intro hn
            rcases Nat.lt_or_eq_of_le (Nat.le_of_not_lt hn) with h8 | h8
            · rcases h.mono q r h0 h8 hr with h9 | ⟨_, h9⟩
              · omega
              · rw [hrz] at h9; omega
            · subst h8; rw [hrz] at hlt; omega
        have := hK r hrlt e (by rw [hrz]; exact hc)
        omega
      refine ih (par q) h1 (e + 1) (M.getD q 0 :: T) (by omega) hdp ?_ ?_ ?_
      · rw [hp, h4, List.append_assoc]; rfl
      · rw [downN_succ, hhop, hd]
      · intro r hr f hrf
        apply Classical.byContradiction
        intro hnlt
        cases f with
        | zero =>
          have h8 := (hQ.zero _).1 hrf
          have := getDn_inj h.nod (show r < M.length by omega) hi (by rw [h8, hmv])
          omega
        | succ f =>
          obtain ⟨z, hz1, hzd⟩ := hQ.down (M.getD r 0) f hrf
          obtain ⟨r1, hr1, hr1z, hr10⟩ := h.done r (by omega) z hz1
          have hrlt : r1 < q := by
            rcases hr10 with hr10 | hr10
            · omega
            · apply Classical.byContradiction
              intro hn
              rcases Nat.lt_or_eq_of_le (Nat.le_of_not_lt hn) with h8 | h8
              · rcases h.mono q r1 h0 h8 hr1 with h9 | ⟨h9, _⟩ <;> omega
              · subst h8; omega
          have := hK r1 hrlt f (by rw [hr1z]; exact hzd)
          omega
/-- .. and where nothing is found there is none. -/
theorem Bfn.none (h : Bfn A u M P par M.length []) {t : Nat} {Q : List (Nat × Nat)} (hQ : DisN A t Q) (hn : t ∉ M) (d : Nat) : (u, d) ∉ Q := by
  have H : ∀ (d : Nat) (x : Nat), x ∈ M → (x, d) ∈ Q → t ∈ M := by
    intro d
    induction d with
    | zero =>
      intro x hx hf
      rw [← (hQ.zero x).1 hf]; exact hx
    | succ d ih =>
      intro x hx hf
      obtain ⟨z, hz1, hzd⟩ := hQ.down x d hf
      obtain ⟨q, hq, rfl⟩ := List.mem_iff_getElem.1 hx
      obtain ⟨k, hk, hkz, _⟩ := h.done q hq z (by rw [getD_in hq]; exact hz1)
      exact ih z (by rw [← hkz]; exact getDn_mem hk) hzd
  intro hd
  refine hn (H d u ?_ hd)
  rw [← h.first.1]
  exact getDn_mem h.pos
/-- The least of the shortest chains from x to its opposite. -/
def chnM (A : List Nat) (x : Nat) : Option (List Nat) := ((bqE A (opp x)).find? fun p => p.1 == x).map fun p => downN A (bqE A (opp x)) p.2 x
theorem chnM_some {A : List Nat} {x d : Nat} (hQ : QOk (bqE A (opp x))) (h : (x, d) ∈ bqE A (opp x)) : chnM A x = some (downN A (bqE A (opp x)) d x) := by
  unfold chnM
  cases hf : (bqE A (opp x)).find? (fun p => p.1 == x) with
  | none =>
    have := List.find?_eq_none.1 hf (x, d) h
    simp at this
  | some p =>
    have h1 := List.mem_of_find?_eq_some hf
    have h2 := List.find?_some hf
    simp at h2
    obtain ⟨q, e⟩ := p
    simp at h2
    subst h2
    rw [hQ.uniq h1 h]; rfl
theorem chnM_none {A : List Nat} {x : Nat} (h : ∀ d, (x, d) ∉ bqE A (opp x)) : chnM A x = none := by
  unfold chnM
  have : (bqE A (opp x)).find? (fun p => p.1 == x) = none := by
    rw [List.find?_eq_none]
    rintro ⟨q, e⟩ hp hq
    simp at hq
    subst hq
    exact h e hp
  rw [this]; rfl
attribute [local irreducible] chnM bqE bq
theorem fs_at {α β : Type} {f : α → Option β} : ∀ {l : List α} {k : Nat} (hk : k < l.length), (∀ j (hj : j < k), f (l[j]'(by omega)) = none) → ∀ {b}, f l[k] = some b → l.findSome? f = some b
  | [], _, hk, _, _, _ => absurd hk (Nat.not_lt_zero _)
  | a :: l, 0, _, _, b, hb => by
    simp at hb
    simp [hb]
  | a :: l, k + 1, hk, hn, b, hb => by
    have h0 := hn 0 (by omega)
    simp at h0 hb
    simp only [List.findSome?_cons, h0]
    exact fs_at (l := l) (k := k) (by simpa using hk) (fun j hj => by simpa using hn (j + 1) (by omega)) hb
theorem mems_at {m i : Nat} (hi : i < (memsN m).length) : (mems m)[i]'(by unfold mems; rw [List.length_map]; exact hi) = (((memsN m)[i] : Nat) : Int) := by
  unfold mems
  rw [List.getElem_map]
/-- The first chain that there is. -/
def oddU (A : List Nat) (u : Nat) : Option (List Nat) := (memsN (A.getD u 0)).findSome? fun v => chnM A (cod u v)
def oddM (n : Nat) (A : List Nat) : Option (List Nat) := (List.range n).findSome? (oddU A)
theorem oddM_some {n : Nat} {A : List Nat} {u k : Nat} {L : List Nat} (hu : u < n) (h0 : ∀ u', u' < u → oddU A u' = none) (hk : k < (memsN (A.getD u 0)).length) (h1 : ∀ j (hj : j < k), chnM A (cod u ((memsN (A.getD u 0))[j]'(by omega))) = none) (h2 : chnM A (cod u (memsN (A.getD u 0))[k]) = some L) : oddM n A = some L := by
  refine fs_at (k := u) (by simpa using hu) (fun j hj => by simpa using h0 j hj) ?_
  rw [List.getElem_range]
  show (memsN (A.getD u 0)).findSome? (fun v => chnM A (cod u v)) = some L
  exact fs_at (f := fun v => chnM A (cod u v)) hk (fun j hj => h1 j hj) h2
theorem oddU_none {A : List Nat} {u : Nat} (h : ∀ j (hj : j < (memsN (A.getD u 0)).length), chnM A (cod u (memsN (A.getD u 0))[j]) = none) : oddU A u = none := by
  unfold oddU
  rw [List.findSome?_eq_none_iff]
  intro x hx
  obtain ⟨j, hj, rfl⟩ := List.mem_iff_getElem.1 hx
  exact h j hj
theorem oddM_someX {n : Nat} {A : List Nat} {u k X : Nat} {L : List Nat} (hX : A.getD u 0 = X) (hu : u < n) (h0 : ∀ u', u' < u → oddU A u' = none) (hk : k < (memsN X).length) (h1 : ∀ j (hj : j < k), chnM A (cod u ((memsN X)[j]'(by omega))) = none) (h2 : chnM A (cod u (memsN X)[k]) = some L) : oddM n A = some L := by
  subst hX; exact oddM_some hu h0 hk h1 h2
theorem oddU_noneX {A : List Nat} {u X : Nat} (hX : A.getD u 0 = X) (h : ∀ j (hj : j < (memsN X).length), chnM A (cod u (memsN X)[j]) = none) : oddU A u = none := by
  subst hX; exact oddU_none h
theorem oddM_none {n : Nat} {A : List Nat} (h : ∀ u, u < n → oddU A u = none) : oddM n A = none := by
  unfold oddM
  rw [List.findSome?_eq_none_iff]
  intro u hu
  exact h u (List.mem_range.1 hu)
theorem chnM_len {A : List Nat} {x : Nat} {L : List Nat} (h : chnM A x = some L) : L.length ≤ 257 := by
  have hb : ∀ p ∈ bqE A (opp x), p.2 ≤ 256 := fun p hp => by unfold bqE at hp; exact bq_dist A (opp x) 256 p hp
  unfold chnM at h
  generalize bqE A (opp x) = Q at *
  cases hf : Q.find? (fun p => p.1 == x) with
  | none => rw [hf] at h; cases h
  | some p =>
    rw [hf] at h
    have h : some (downN A Q p.2 x) = some L := h
    injection h with h
    rw [← h, downN_len]
    have := hb p (List.mem_of_find?_eq_some hf)
    omega
theorem oddM_len {n : Nat} {A : List Nat} {L : List Nat} (h : oddM n A = some L) : L.length ≤ 257 := by
  obtain ⟨u, _, h1⟩ := List.exists_of_findSome?_eq_some h
  obtain ⟨v, _, h2⟩ := List.exists_of_findSome?_eq_some h1
  exact chnM_len h2
end
end Go.Proofs.YtggjmnihnjdoaaaDoor
