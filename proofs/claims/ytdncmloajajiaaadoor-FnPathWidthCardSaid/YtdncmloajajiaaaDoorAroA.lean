/- The search for the least path around a vertex: plain. · The search for the least path around a vertex: the reference's walk. · The search for the least path around a vertex: the reference's, whole. · AroundPath: both. · AroundPath: the program's. · AroundPath: the program's, whole. -/
import Derived.Test.YtdncmloajajiaaaDoorPathA
import Derived.Test.YtdncmloajajiaaaDoorLeft
import Derived.Deep.RegionWith
namespace Go.Proofs.YtdncmloajajiaaaDoor
open Go.RowKit
section
theorem far_le {g : List (List Int)} {s : List Int} {v x : Int} {d : Nat} (h : Ball g s v d x) : 0 ≤ far g s v x ∧ far g s v x ≤ d := by
  obtain ⟨e, h1, _, h3⟩ := far_spec ⟨d, h⟩
  rw [h1]
  refine ⟨by omega, ?_⟩
  apply Classical.byContradiction
  intro hn
  exact h3 d (by omega) h
theorem rowsIn_eq {g : List (List Int)} {s : List Int} (hs : SetP g s) {u : Int} (h0 : 0 ≤ u) (h1 : u < g.length) : rowsIn (g.map maskL) (maskL s) u = leftL (row g u) (maskL s) := by
  obtain ⟨m, rfl⟩ := Int.eq_ofNat_of_zero_le h0
  have hi := hs.1.inc m (by omega)
  have h16 := hs.1.le
  unfold rowsIn
  rw [Int.toNat_natCast, List.getD_eq_getElem?_getD, List.getElem?_map, List.getElem?_eq_getElem (show m < g.length by omega)]
  show mems (maskL g[m] &&& maskL s) = _
  rw [← row_nat g m (by omega), ← leftL_mask hi, mems_maskL (leftL_inc hi _) (by omega)]
theorem rowsIn_mem {g : List (List Int)} {s : List Int} (hs : SetP g s) {u x : Int} (h0 : 0 ≤ u) (h1 : u < g.length) : x ∈ rowsIn (g.map maskL) (maskL s) u ↔ x ∈ row g u ∧ x ∈ s := by
  rw [rowsIn_eq hs h0 h1, leftL_mem]
  constructor
  · rintro ⟨h2, h3⟩
    have hx := row_mem hs.1 h0 h1 h2
    rw [testBit_maskL s _ (fun v hv => (hs.2.1 v hv).1), Int.toNat_of_nonneg hx.1] at h3
    exact ⟨h2, by simpa using h3⟩
  · rintro ⟨h2, h3⟩
    have hx := row_mem hs.1 h0 h1 h2
    rw [testBit_maskL s _ (fun v hv => (hs.2.1 v hv).1), Int.toNat_of_nonneg hx.1]
    exact ⟨h2, by simpa using h3⟩
theorem rowsIn_sorted (A : List Nat) (t : Nat) (u : Int) : (rowsIn A t u).Pairwise (· < ·) := by
  unfold rowsIn
  exact mems_sorted _
structure Bft (g : List (List Int)) (s : List Int) (u : Int) (M : List Int) (P : List (List Int)) (par : Nat → Nat) (i : Nat) (Z : List Int) : Prop where
  len : P.length = M.length
  pos : 0 < M.length
  first : M.getD 0 0 = u ∧ P.getD 0 [] = [u]
  ins : ∀ x ∈ M, x ∈ s
  nod : M.Nodup
  path : ∀ k, 0 < k → k < M.length → par k < k ∧ (par k < i ∨ (par k = i ∧ M.getD k 0 ∈ Z)) ∧ M.getD k 0 ∈ row g (M.getD (par k) 0) ∧ P.getD k [] = P.getD (par k) [] ++ [M.getD k 0]
  mono : ∀ k k', 0 < k → k < k' → k' < M.length → par k < par k' ∨ (par k = par k' ∧ M.getD k 0 < M.getD k' 0)
  done : ∀ q, q < i → ∀ x ∈ row g (M.getD q 0), x ∈ s → ∃ k, k < M.length ∧ M.getD k 0 = x ∧ (k = 0 ∨ par k ≤ q)
  part : ∀ x ∈ Z, x ∈ s → ∃ k, k < M.length ∧ M.getD k 0 = x ∧ (k = 0 ∨ par k ≤ i)
variable {g : List (List Int)} {s : List Int} {u : Int} {M : List Int} {P : List (List Int)} {par : Nat → Nat} {i : Nat} {Z : List Int}
theorem Bft.start (hu : u ∈ s) : Bft g s u [u] [[u]] (fun _ => 0) 0 [] where
  len := rfl
  pos := by simp
  first := ⟨rfl, rfl⟩
  ins := by intro x hx; simp at hx; subst hx; exact hu
  nod := by simp
  path := by intro k h0 h1; simp at h1; omega
  mono := by intro k k' h0 h1 h2; simp at h2; omega
  done := by intro q hq; omega
  part := by intro x hx; cases hx
theorem getD_mem {M : List Int} {k : Nat} (h : k < M.length) : M.getD k 0 ∈ M := by rw [getD_eq M k h]; exact List.getElem_mem h
theorem Bft.skip (h : Bft g s u M P par i Z) (y : Int) (hy : y ∈ s → y ∈ M) : Bft g s u M P par i (Z ++ [y]) where
  len := h.len
  pos := h.pos
  first := h.first
  ins := h.ins
  nod := h.nod
  path := by
    intro k h0 h1
    obtain ⟨h2, h3, h4, h5⟩ := h.path k h0 h1
    exact ⟨h2, by rcases h3 with h3 | ⟨h3, h6⟩
                  · exact .inl h3
                  · exact .inr ⟨h3, List.mem_append_left _ h6⟩, h4, h5⟩
  mono := h.mono
  done := h.done
  part := by
    intro x hx hxs
    rcases List.mem_append.1 hx with hx | hx
    · exact h.part x hx hxs
    · simp at hx; subst hx
      obtain ⟨k, hk, he⟩ := List.mem_iff_getElem.1 (hy hxs)
      refine ⟨k, hk, by rw [getD_eq M k hk, he], ?_⟩
      rcases Nat.eq_zero_or_pos k with h0 | h0
      · exact .inl h0
      · have := (h.path k h0 hk).2.1
        right; omega
theorem getD_snocP (P : List (List Int)) (y : List Int) (k : Nat) (h : k ≤ P.length) : (P ++ [y]).getD k [] = if k < P.length then P.getD k [] else y := by
  by_cases hk : k < P.length
  · rw [if_pos hk, List.getD_eq_getElem?_getD, List.getElem?_append_left hk, List.getD_eq_getElem?_getD]
  · rw [if_neg hk, List.getD_eq_getElem?_getD, List.getElem?_append_right (by omega), show k - P.length = 0 by omega]; rfl
theorem Bft.take (h : Bft g s u M P par i Z) (y : Int) (hi : i < M.length) (hys : y ∈ s) (hyM : y ∉ M) (hyr : y ∈ row g (M.getD i 0)) (hZ : ∀ z ∈ Z, z < y) :
    Bft g s u (M ++ [y]) (P ++ [P.getD i [] ++ [y]]) (fun k => if k = M.length then i else par k) i (Z ++ [y]) := by
  have gm : ∀ k, k < M.length → (M ++ [y]).getD k 0 = M.getD k 0 := fun k hk => by rw [getD_snoc M y k (by omega), if_pos hk]
  have gl : (M ++ [y]).getD M.length 0 = y := by rw [getD_snoc M y _ (Nat.le_refl _), if_neg (Nat.lt_irrefl _)]
  have pm : ∀ k, k < M.length → (P ++ [P.getD i [] ++ [y]]).getD k [] = P.getD k [] := fun k hk => by rw [getD_snocP P _ k (by rw [h.len]; omega), if_pos (by rw [h.len]; exact hk)]
  have pl : (P ++ [P.getD i [] ++ [y]]).getD M.length [] = P.getD i [] ++ [y] := by rw [getD_snocP P _ _ (by rw [h.len]; exact Nat.le_refl _), if_neg (by rw [h.len]; exact Nat.lt_irrefl _)]
  have hpos := h.pos
  refine ⟨by simp [h.len], by simp, ?_, ?_, ?_, ?_, ?_, ?_, ?_⟩
  · rw [gm 0 hpos, pm 0 hpos]; exact h.first
  · intro x hx
    rcases List.mem_append.1 hx with hx | hx
    · exact h.ins x hx
    · simp at hx; subst hx; exact hys
  · rw [List.nodup_append]
    exact ⟨h.nod, by simp, fun a ha b hb => by simp at hb; subst hb; rintro rfl; exact hyM ha⟩
  · intro k h0 h1
    by_cases hk : k = M.length
    · subst hk
      simp only [if_true]
      rw [gl, pl, gm i hi, pm i hi]
      exact ⟨hi, .inr ⟨trivial, by simp⟩, hyr, rfl⟩
    · have hk2 : k < M.length := by simp at h1; omega
      obtain ⟨h2, h3, h4, h5⟩ := h.path k h0 hk2
      simp only [if_neg hk]
      rw [gm k hk2, pm k hk2, gm _ (by omega), pm _ (by omega)]
      exact ⟨h2, by rcases h3 with h3 | ⟨h3, h6⟩
                    · exact .inl h3
                    · exact .inr ⟨h3, List.mem_append_left _ h6⟩, h4, h5⟩
  · intro k k' h0 h1 h2
    have hk : k < M.length := by simp at h2; omega
    simp only [if_neg (show ¬ k = M.length by omega)]
    rw [gm k hk]
    by_cases hk' : k' = M.length
    · subst hk'
      simp only [if_true]
      rw [gl]
      rcases (h.path k h0 hk).2.1 with h3 | ⟨h3, h4⟩
      · exact .inl h3
      · exact .inr ⟨h3, hZ _ h4⟩
    · have hk2 : k' < M.length := by simp at h2; omega
      simp only [if_neg hk']
      rw [gm k' hk2]
      exact h.mono k k' h0 h1 hk2
  · intro q hq x hx hxs
    rw [gm q (by omega)] at hx
    obtain ⟨k, hk, h1, h2⟩ := h.done q hq x hx hxs
    refine ⟨k, by simp; omega, by rw [gm k hk, h1], ?_⟩
    simp only [if_neg (show ¬ k = M.length by omega)]
    exact h2
  · intro x hx hxs
    rcases List.mem_append.1 hx with hx | hx
    · obtain ⟨k, hk, h1, h2⟩ := h.part x hx hxs
      refine ⟨k, by simp; omega, by rw [gm k hk, h1], ?_⟩
      simp only [if_neg (show ¬ k = M.length by omega)]
      exact h2
    · simp at hx; subst hx
      exact ⟨M.length, by simp, gl, by simp⟩
theorem Bft.leave (h : Bft g s u M P par i (row g (M.getD i 0))) : Bft g s u M P par (i + 1) [] where
  len := h.len
  pos := h.pos
  first := h.first
  ins := h.ins
  nod := h.nod
  path := by
    intro k h0 h1
    obtain ⟨h2, h3, h4, h5⟩ := h.path k h0 h1
    exact ⟨h2, .inl (by rcases h3 with h3 | ⟨h3, _⟩ <;> omega), h4, h5⟩
  mono := h.mono
  done := by
    intro q hq x hx hxs
    by_cases e : q = i
    · subst e; exact h.part x hx hxs
    · exact h.done q (by omega) x hx hxs
  part := by intro x hx; cases hx
theorem getD_inj {M : List Int} (hn : M.Nodup) {a b : Nat} (ha : a < M.length) (hb : b < M.length) (h : M.getD a 0 = M.getD b 0) : a = b := by
  rw [getD_eq M a ha, getD_eq M b hb] at h
  rcases Nat.lt_trichotomy a b with h1 | h1 | h1
  · exact absurd h (List.pairwise_iff_getElem.1 hn a b ha hb h1)
  · exact h1
  · exact absurd h.symm (List.pairwise_iff_getElem.1 hn b a hb ha h1)
/-- The path that is found is the least one down the distances. -/
theorem Bft.found (h : Bft g s u M P par i []) (hs : SetP g s) {v : Int} (hv : v ∈ s) (hi : i < M.length) (hmv : M.getD i 0 = v) :
    ∃ d : Nat, far g s v u = d ∧ P.getD i [] = downL (rowsIn (g.map maskL) (maskL s)) (farL g s v) d u := by
  have hin : ∀ k, k < M.length → 0 ≤ M.getD k 0 ∧ M.getD k 0 < g.length := fun k hk => hs.2.1 _ (h.ins _ (getD_mem hk))
  have hdesc := desc_in hs hv
  suffices H : ∀ (q : Nat), ∀ (e : Nat) (T : List Int), q ≤ i → far g s v (M.getD q 0) = e → P.getD i [] = P.getD q [] ++ T → downL (rowsIn (g.map maskL) (maskL s)) (farL g s v) e (M.getD q 0) = M.getD q 0 :: T →
      (∀ r, r < q → ¬ (0 ≤ far g s v (M.getD r 0) ∧ far g s v (M.getD r 0) ≤ e)) → ∃ d : Nat, far g s v u = d ∧ P.getD i [] = downL (rowsIn (g.map maskL) (maskL s)) (farL g s v) d u by
    refine H i 0 [] (Nat.le_refl _) ?_ (by simp) ?_ ?_
    · rw [hmv]; exact far_zero.2 rfl
    · rw [hmv]; rfl
    · intro r hr ⟨h1, h2⟩
      have h3 : M.getD r 0 = v := (far_zero (g := g) (s := s)).1 (by omega)
      have := getD_inj h.nod (show r < M.length by omega) hi (by rw [h3, hmv])
      omega
  intro q
  induction q using Nat.strongRecOn with
  | ind q ih =>
    intro e T hq hf hp hd hK
    rcases Nat.eq_zero_or_pos q with h0 | h0
    · subst h0
      rw [h.first.1] at hf hd
      rw [h.first.2] at hp
      refine ⟨e, hf, ?_⟩
      rw [hp, hd]; rfl
    · obtain ⟨h1, _, h3, h4⟩ := h.path q h0 (by omega)
      have hrq := hin q (by omega)
      have hrp := hin (par q) (by omega)
      -- the distance ahead is one more
      have hle : 0 ≤ far g s v (M.getD (par q) 0) ∧ far g s v (M.getD (par q) 0) ≤ ((e + 1 : Nat) : Int) := by
        apply far_le
        obtain ⟨e2, h6, h7, _⟩ := far_spec (far_nonneg.1 (show 0 ≤ far g s v (M.getD q 0) by omega))
        obtain rfl : e2 = e := by omega
        obtain ⟨m, hm⟩ := Int.eq_ofNat_of_zero_le hrp.1
        refine .inr ⟨h.ins _ (getD_mem (by omega)), M.getD q 0, h7, ?_⟩
        have := hs.1.sym m (by omega) (M.getD q 0) (by rw [← hm]; exact h3)
        rwa [← hm] at this
      have hge := hK (par q) h1
      have hfp : far g s v (M.getD (par q) 0) = ((e + 1 : Nat) : Int) := by omega
      -- the hop
      have hRm : M.getD q 0 ∈ rowsIn (g.map maskL) (maskL s) (M.getD (par q) 0) := (rowsIn_mem hs hrp.1 hrp.2).2 ⟨h3, h.ins _ (getD_mem (by omega))⟩
      obtain ⟨x, hx, hxe⟩ := List.mem_iff_getElem.1 hRm
      have hhop : hop (rowsIn (g.map maskL) (maskL s) (M.getD (par q) 0)) (farL g s v) (e : Int) = M.getD q 0 := by
        rw [← hxe]
        refine hop_at hx ?_ (by rw [hxe, farL_get hrq.1 hrq.2, hf])
        intro j hj hc
        have hlt := List.pairwise_iff_getElem.1 (rowsIn_sorted _ _ _) j x (by omega) hx hj
        rw [hxe] at hlt
        have hzm := List.getElem_mem (l := rowsIn (g.map maskL) (maskL s) (M.getD (par q) 0)) (n := j) (by omega)
        generalize (rowsIn (g.map maskL) (maskL s) (M.getD (par q) 0))[j] = z at *
        obtain ⟨hz1, hz2⟩ := (rowsIn_mem hs hrp.1 hrp.2).1 hzm
        have hzr := hs.2.1 z hz2
        rw [farL_get hzr.1 hzr.2] at hc
        obtain ⟨r, hr, hrz, hr0⟩ := h.done (par q) (by omega) z hz1 hz2
        have hrlt : r < q := by
          rcases hr0 with hr0 | hr0
          · omega
          · apply Classical.byContradiction
            intro hn
            rcases Nat.lt_or_eq_of_le (Nat.le_of_not_lt hn) with h8 | h8
            · rcases h.mono q r h0 h8 hr with h9 | ⟨_, h9⟩
              · omega
              · rw [hrz] at h9; omega
            · subst h8; rw [hrz] at hlt; omega
        refine hK r hrlt ?_
        rw [hrz, hc]; omega
      refine ih (par q) h1 (e + 1) (M.getD q 0 :: T) (by omega) hfp ?_ ?_ ?_
      · rw [hp, h4, List.append_assoc]; rfl
      · rw [downL_succ, hhop, hd]
      · intro r hr ⟨h6, h7⟩
        have hrr := hin r (by omega)
        obtain ⟨f, hff⟩ := Int.eq_ofNat_of_zero_le h6
        cases f with
        | zero =>
          have h8 : M.getD r 0 = v := (far_zero (g := g) (s := s)).1 (by omega)
          have := getD_inj h.nod (show r < M.length by omega) hi (by rw [h8, hmv])
          omega
        | succ f =>
          obtain ⟨z, hz, hzd⟩ := hdesc.down (M.getD r 0) hrr.1 hrr.2 f (by rw [farL_get hrr.1 hrr.2, hff]; simp)
          obtain ⟨hz1, hz2⟩ := (rowsIn_mem hs hrr.1 hrr.2).1 hz
          have hzr := hs.2.1 z hz2
          rw [farL_get hzr.1 hzr.2] at hzd
          obtain ⟨r1, hr1, hr1z, hr10⟩ := h.done r (by omega) z hz1 hz2
          have hrlt : r1 < q := by
            rcases hr10 with hr10 | hr10
            · omega
            · apply Classical.byContradiction
              intro hn
              rcases Nat.lt_or_eq_of_le (Nat.le_of_not_lt hn) with h8 | h8
              · rcases h.mono q r1 h0 h8 hr1 with h9 | ⟨h9, _⟩ <;> omega
              · subst h8; omega
          refine hK r1 hrlt ?_
          rw [hr1z, hzd]; omega
/-- .. and where nothing is found there is none. -/
theorem Bft.none (h : Bft g s u M P par M.length []) (hs : SetP g s) {v : Int} (hv : v ∈ s) (hn : v ∉ M) : far g s v u < 0 := by
  have hdesc := desc_in hs hv
  apply Classical.byContradiction
  intro hc
  obtain ⟨d, hd⟩ := Int.eq_ofNat_of_zero_le (show 0 ≤ far g s v u by omega)
  have H : ∀ (d : Nat) (x : Int), x ∈ M → far g s v x = d → v ∈ M := by
    intro d
    induction d with
    | zero =>
      intro x hx hf
      have e : x = v := (far_zero (g := g) (s := s)).1 (by simpa using hf)
      rw [← e]; exact hx
    | succ d ih =>
      intro x hx hf
      have hxr := hs.2.1 x (h.ins x hx)
      obtain ⟨z, hz, hzd⟩ := hdesc.down x hxr.1 hxr.2 d (by rw [farL_get hxr.1 hxr.2, hf]; simp)
      obtain ⟨hz1, hz2⟩ := (rowsIn_mem hs hxr.1 hxr.2).1 hz
      have hzr := hs.2.1 z hz2
      rw [farL_get hzr.1 hzr.2] at hzd
      obtain ⟨q, hq, rfl⟩ := List.mem_iff_getElem.1 hx
      obtain ⟨k, hk, hkz, _⟩ := h.done q hq z (by rw [getD_eq M q hq]; exact hz1) hz2
      exact ih z (by rw [← hkz]; exact getD_mem hk) hzd
  refine hn (H d u ?_ hd)
  rw [← h.first.1]
  exact getD_mem h.pos
end
section
section
variable {P : Program} {ops : Array Oper} {rest : List Oper} {o : Oper} {a : Act} {Q : Exit → Act → World → Prop}
/-- append(s, x): the slice stays in its block, or lies in a new one. -/
theorem law_push_w {t e : TypeId} {z : Value} (hT : SliceT P t e z) (w : World) (hg : o.guard = none) (s x : Operand) (hop : o.op = .call { callee := .builtin .append, args := #[s, x], argTypes := #[t, t] })
    (B : Nat) (v : Value) (xs : List Value) (hs : a.eval s = v) (hown : Own e w B v xs) (u : Value) (g : Nat) (hx : a.eval x = .slice (some ⟨g, 0, none⟩) 1 1) (hgs : g = w.heap.size) (hu : u.oneCell' = true) (hn : xs.length < 1099511627776) (hB : B ≤ w.heap.size)
    (hK : ∀ v' w', Own e w' B v' (xs ++ [u]) → w.grownBy w' v.ownBlock → (v'.ownBlock = v.ownBlock ∨ ∃ k, v'.ownBlock = some k ∧ w.heap.size ≤ k) → wpList P ops Q rest (a.put o.dst v') w') :
    wpList P ops Q (o :: rest) a (w.alloc (.cells #[u] e)) := by
  subst hgs
  obtain ⟨ht, bytes, hby, hi0, hz⟩ := hT
  obtain ⟨i, hi, hz0, hz1, hz2⟩ := info_parts hi0
  have hown2 : (w.alloc (.cells #[u] e)).ownsRow B e 1 v xs.length xs := World.ownsRow.alloc hown _
  have hnews : ∀ j y, [u][j]? = some y → (w.alloc (.cells #[u] e)).cell? ((⟨w.heap.size, 0, none⟩ : Addr).add j) = some y := by
    intro j y hj
    have hj0 : j = 0 := by
      rcases Nat.eq_zero_or_pos j with h | h
      · exact h
      · rw [List.getElem?_eq_none (by simp; omega)] at hj; cases hj
    subst hj0
    have : u = y := by simpa using hj
    subst this
    simp [Addr.add]
  have hone : ∀ y ∈ [u], y.oneCell' = true := by intro y hy; simp at hy; subst hy; exact hu
  have hbytes : (xs.length + 1) * bytes ≤ 140737488355328 := Nat.le_trans (Nat.mul_le_mul_left _ hby) (by omega)
  obtain ⟨v', w', hr, h2, h3, _⟩ := run_append_own (P := P) (w.alloc (.cells #[u] e)) B t o.type e i z 1 bytes ht hi hz0 hz1 hz2 (by rw [hz]; rfl) (by decide) v xs.length xs hown2 ⟨w.heap.size, 0, none⟩ 1 1 [u] (by simp) hnews hone (by unfold maxLen; omega) hbytes (by simp; omega)
  have hwh : v'.ownBlock = v.ownBlock ∨ ∃ k, v'.ownBlock = some k ∧ w.heap.size ≤ k := by
    rcases hown2.2 with ⟨hv, _⟩ | ⟨g, cap, cur, hv, hbg, hgg, hnc, hcm, hcs, htake⟩
    · subst hv
      have hr2 := run_append_nil (P := P) (w.alloc (.cells #[u] e)) t o.type e i z ht hi hz0 ⟨w.heap.size, 0, none⟩ 1 1 [u] (by simp [hz1]) hnews (by decide) (by decide) (by rw [hz2]; omega)
      rw [hr2] at hr
      injection hr with e1 e2
      exact .inr ⟨_, by rw [← e1]; rfl, by simp⟩
    · subst hv
      by_cases hroom : xs.length + 1 ≤ cap
      · have hr2 := run_append_room (P := P) (w.alloc (.cells #[u] e)) t o.type e i ht hi g xs.length cap cur hgg ⟨w.heap.size, 0, none⟩ 1 1 [u] (by simp [hz1]) hnews hone hroom (by rw [hz1, hcs]; simp; omega)
        rw [hr2] at hr
        injection hr with e1 e2
        exact .inl (by rw [← e1]; rfl)
      · have hr2 := run_append_grow (P := P) (w.alloc (.cells #[u] e)) t o.type e i z ht hi hz0 ⟨g, 0, none⟩ xs.length cap xs (by rw [hz1]; simp) (hown2.cells (g := g) rfl) ⟨w.heap.size, 0, none⟩ 1 1 [u] (by simp [hz1]) hnews (by omega) (by omega) (by rw [hz2]; exact growslice_fits (by omega) hbytes)
        rw [hr2] at hr
        injection hr with e1 e2
        exact .inr ⟨_, by rw [← e1]; rfl, by simp⟩
  refine wpList_plain hg fun K hKK => ?_
  unfold Oper.wp execOp
  simp only [hop, resolve, invoke, builtin, Sem.run_bind, Sem.run_pure, Result.andThen_ok, List.map_toArray, List.map_cons, List.map_nil, hs, hx, hr]
  refine hKK _ _ (hK v' w' (by simpa [Own] using h2) ?_ hwh)
  exact ⟨h3.os, h3.tape, h3.output, Nat.le_trans (by simp) h3.size, fun k hk hne => (h3.block k (by simp; omega) hne).trans (Below.heap_alloc w _ k hk)⟩
end
theorem Inner.kept_sep {ei : TypeId} {w w' : World} {B : Nat} {rs : List Row} {row : Option Nat} (h : Inner ei w B rs) (hg : w.grownBy w' row) (hs : ∀ r ∈ rs, r.val.ownBlock = none ∨ r.val.ownBlock ≠ row) : Inner ei w' B rs :=
  ⟨fun r hr => (h.own r hr).kept hg (hs r hr), h.apart⟩
set_option maxHeartbeats 1000000 in
theorem l1Copy_any (a : Option Addr) (zs : List Int) (c : Nat) (w : World) (hz : Rd (Value.int .i64) w a zs) (hm : zs.length ≤ 1048576) (ha : a = none → c = 0) :
    Calls Tryd.prog 73 #[.slice a zs.length c] w (RetOwn 2 (zs.map (.int .i64)) w) := by
  have RZ := hid hz; clear hz
  have B0 := hid (alloc_below w (.cells #[] 2))
  have HO := hid (show Own 2 (w.alloc (.cells #[] 2)) w.heap.size (.slice (some ⟨w.heap.size, 0, none⟩) 0 0) [] from own_new 2 w [] (by decide))
  have RZ1 := hid (RZ.out.below B0.out (Nat.le_refl _))
  go_enter Tryd.func73, Tryd.ntmps73
  go_wp2_with (at_builtin; refine law_append tI64 _ rfl _ _ rfl (Value.int .i64) w.heap.size _ [] rfl HO.out a c zs rfl RZ1.out ha ?c0 ?c1 ?c2 ?_)
  case c0 => intro y _; rfl
  case c1 => simp; omega
  case c2 => simp
  intro v' w' h1 h2
  have ON := hid h1
  have B1 := hid (B0.out.trans (grown_below h2 B0.out.size (fun g hg => HO.out.ge g hg)))
  clear h1 h2
  go_wp2
  go_ret
  exact ⟨_, rfl, by simpa using ON.out, B1.out⟩
def insideL (g : List (List Int)) (x : Int) : List Int := (allL g.length).filter fun v => decide (v ≠ x ∧ v ∉ row g x)
end
section
noncomputable def aroS (g : List (List Int)) (s : List Int) (u v : Int) : List Int :=
  if u ∈ s ∧ v ∈ s ∧ 0 ≤ far g s v u then downL (rowsIn (g.map maskL) (maskL s)) (farL g s v) (far g s v u).toNat u else []
theorem Bft.last {g : List (List Int)} {s : List Int} {u : Int} {M : List Int} {P : List (List Int)} {par : Nat → Nat} {i : Nat} {Z : List Int} (h : Bft g s u M P par i Z) {k : Nat} (hk : k < M.length) : ∃ pre, P.getD k [] = pre ++ [M.getD k 0] := by
  rcases Nat.eq_zero_or_pos k with h0 | h0
  · subst h0; exact ⟨[], by rw [h.first.2, h.first.1]; rfl⟩
  · exact ⟨_, (h.path k h0 hk).2.2.2⟩
theorem Bft.sub {g : List (List Int)} {s : List Int} {u : Int} {M : List Int} {P : List (List Int)} {par : Nat → Nat} {i : Nat} {Z : List Int} (h : Bft g s u M P par i Z) : ∀ k, k < M.length → (P.getD k []).length ≤ k + 1 := by
  intro k
  induction k using Nat.strongRecOn with
  | ind k ih =>
    intro hk
    rcases Nat.eq_zero_or_pos k with h0 | h0
    · subst h0; rw [h.first.2]; simp
    · obtain ⟨h1, _, _, h4⟩ := h.path k h0 hk
      have := ih (par k) h1 (by omega)
      rw [h4, List.length_append]
      have e : [M.getD k 0].length = 1 := rfl
      omega
theorem nums_getD (rs : List Row) (k : Nat) (h : k < rs.length) : (nums rs).getD k [] = rs[k].z := by
  rw [List.getD_eq_getElem?_getD, List.getElem?_eq_getElem (by rw [nums_length]; exact h)]
  simp [nums]
end
section
def ThreeP (g : List (List Int)) (x y z : Int) : Prop := GOk g ∧ (0 ≤ x ∧ x < g.length) ∧ (0 ≤ y ∧ y < g.length) ∧ (0 ≤ z ∧ z < g.length) ∧ x ≠ y ∧ x ≠ z ∧ y ≠ z
noncomputable instance (g : List (List Int)) (x y z : Int) : Decidable (ThreeP g x y z) := Classical.propDecidable _
noncomputable def aroL (g : List (List Int)) (x y z : Int) : List Int := if ThreeP g x y z then aroS g (insideL g z) x y else []
theorem insideL_set {g : List (List Int)} (hg : GOk g) (z : Int) : SetP g (insideL g z) := by
  refine ⟨hg, ?_, ?_⟩
  · intro v hv
    exact (allL_mem _ _).1 (List.mem_filter.1 hv).1
  · exact (allL_inc _).2.filter _
theorem aroS_len {g : List (List Int)} {s : List Int} (hs : SetP g s) (u v : Int) : (aroS g s u v).length ≤ 16 := by
  unfold aroS
  split
  · rename_i h
    rw [downL_len]
    have hu := hs.2.1 u h.1
    have := down_le (desc_in hs h.2.1) (d := (far g s v u).toNat) hu.1 hu.2 (by rw [farL_get hu.1 hu.2, Int.toNat_of_nonneg h.2.2])
    have := hs.1.le
    omega
  · simp
theorem aroL_len (g : List (List Int)) (x y z : Int) : (aroL g x y z).length ≤ 1048576 := by
  unfold aroL
  split
  · rename_i h
    have := aroS_len (insideL_set h.1 z) x y
    omega
  · simp
theorem aroL_no {g : List (List Int)} {x y z : Int} (h : ¬ ThreeP g x y z) : aroL g x y z = [] := by unfold aroL; rw [if_neg h]
def insideTo (g : List (List Int)) (x : Int) (k : Nat) : List Int := (allL k).filter fun v => decide (v ≠ x ∧ v ∉ row g x)
theorem insideTo_succ (g : List (List Int)) (x : Int) (k : Nat) : insideTo g x (k + 1) = insideTo g x k ++ if (k : Int) ≠ x ∧ (k : Int) ∉ row g x then [(k : Int)] else [] := by
  unfold insideTo
  rw [allL_succ, List.filter_append]
  by_cases h : (k : Int) ≠ x ∧ (k : Int) ∉ row g x
  · rw [if_pos h]; simp [h]
  · rw [if_neg h]; congr 1; rw [List.filter_eq_nil_iff]; intro a ha; simp at ha; subst ha; simpa using h
theorem insideTo_len (g : List (List Int)) (x : Int) (k : Nat) : (insideTo g x k).length ≤ k := by
  refine Nat.le_trans (List.length_filter_le _ _) ?_
  rw [allL_len]; exact Nat.le_refl _
end
section
theorem inside_mask {g : List (List Int)} (hg : GOk g) {q : Nat} (hq : q < g.length) : maskL (insideL g (q : Int)) = dif (dif (2 ^ g.length - 1) (maskL (row g (q : Int)))) (2 ^ q) := by
  have hset := insideL_set hg (q : Int)
  apply Nat.eq_of_testBit_eq
  intro i
  rw [testBit_maskL _ i (fun v hv => (hset.2.1 v hv).1), testBit_dif, testBit_dif, Nat.testBit_two_pow_sub_one, testBit_maskL _ i (fun v hv => ((hg.inc q hq).1 v hv).1), Nat.testBit_two_pow]
  have e1 : (i : Int) ∈ insideL g (q : Int) ↔ (i < g.length ∧ (i : Int) ∉ row g (q : Int)) ∧ ¬ q = i := by
    unfold insideL
    rw [List.mem_filter, allL_mem, decide_eq_true_iff]
    constructor
    · intro h
      exact ⟨⟨by omega, h.2.2⟩, fun e => h.2.1 (by omega)⟩
    · intro h
      exact ⟨by omega, fun e => h.2 (by omega), h.1.2⟩
  rw [Bool.eq_iff_iff, decide_eq_true_iff, e1, Bool.and_eq_true, Bool.and_eq_true, decide_eq_true_iff]
  simp only [Bool.not_eq_true', decide_eq_false_iff_not]
def aroX (A : List Nat) (t : Nat) (D : List Int) (u v : Nat) : Option (List Int) := if t.testBit u = true ∧ t.testBit v = true then pathX A t D u else none
end
section
end
end Go.Proofs.YtdncmloajajiaaaDoor
