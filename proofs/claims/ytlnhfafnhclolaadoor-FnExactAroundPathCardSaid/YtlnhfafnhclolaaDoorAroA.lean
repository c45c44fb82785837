/- The search for the least path around a vertex: plain. · The search for the least path around a vertex: the reference's walk. · The search for the least path around a vertex: the reference's, whole. · AroundPath: both. · AroundPath: the program's. · AroundPath: the program's, whole. -/
import Derived.Test.YtlnhfafnhclolaaDoorPathA
import Derived.Test.YtlnhfafnhclolaaDoorLeft
import Derived.Deep.RegionWith
namespace Go.Proofs.YtlnhfafnhclolaaDoor
open Go.RowKit
section
theorem far_le {g : List (List Int)} {s : List Int} {v x : Int} {d : Nat} (h : Ball g s v d x) : 0 ≤ far g s v x ∧ far g s v x ≤ d := by
  obtain ⟨e, h1, _, h3⟩ := far_spec ⟨d, h⟩
  rw [h1]
  refine ⟨by omega, ?_⟩
  apply Classical.byContradiction
  intro hn
  exact h3 d (by omega) h
theorem rowsIn_eq {g : List (List Int)} {s : List Int} (hs : SetP g s) {u : Int} (h0 : 0 ≤ u) (h1 : u < g.length) : rowsIn (g.map maskL) (maskL s) u = leftL (row g u) (maskL s) := by
  obtain ⟨m, rfl⟩ := Int.eq_ofNat_of_zero_le h0
  have hi := hs.1.inc m (by omega)
  have h16 := hs.1.le
  unfold rowsIn
  rw [Int.toNat_natCast, List.getD_eq_getElem?_getD, List.getElem?_map, List.getElem?_eq_getElem (show m < g.length by omega)]
  show mems (maskL g[m] &&& maskL s) = _
  rw [← row_nat g m (by omega), ← leftL_mask hi, mems_maskL (leftL_inc hi _) (by omega)]
theorem rowsIn_mem {g : List (List Int)} {s : List Int} (hs : SetP g s) {u x : Int} (h0 : 0 ≤ u) (h1 : u < g.length) : x ∈ rowsIn (g.map maskL) (maskL s) u ↔ x ∈ row g u ∧ x ∈ s := by
  rw [rowsIn_eq hs h0 h1, leftL_mem]
  constructor
  · rintro ⟨h2, h3⟩
    have hx := row_mem hs.1 h0 h1 h2
    rw [testBit_maskL s _ (fun v hv => (hs.2.1 v hv).1), Int.toNat_of_nonneg hx.1] at h3
    exact ⟨h2, by simpa using h3⟩
  · rintro ⟨h2, h3⟩
    have hx := row_mem hs.1 h0 h1 h2
    rw [testBit_maskL s _ (fun v hv => (hs.2.1 v hv).1), Int.toNat_of_nonneg hx.1]
    exact ⟨h2, by simpa using h3⟩
theorem rowsIn_sorted (A : List Nat) (t : Nat) (u : Int) : (rowsIn A t u).Pairwise (· < ·) := by
  unfold rowsIn
  exact mems_sorted _
structure Bft (g : List (List Int)) (s : List Int) (u : Int) (M : List Int) (P : List (List Int)) (par : Nat → Nat) (i : Nat) (Z : List Int) : Prop where
  len : P.length = M.length
  pos : 0 < M.length
  first : M.getD 0 0 = u ∧ P.getD 0 [] = [u]
  ins : ∀ x ∈ M, x ∈ s
  nod : M.Nodup
  path : ∀ k, 0 < k → k < M.length → par k < k ∧ (par k < i ∨ (par k = i ∧ M.getD k 0 ∈ Z)) ∧ M.getD k 0 ∈ row g (M.getD (par k) 0) ∧ P.getD k [] = P.getD (par k) [] ++ [M.getD k 0]
  mono : ∀ k k', 0 < k → k < k' → k' < M.length → par k < par k' ∨ (par k = par k' ∧ M.getD k 0 < M.getD k' 0)
  done : ∀ q, q < i → ∀ x ∈ row g (M.getD q 0), x ∈ s → ∃ k, k < M.length ∧ M.getD k 0 = x ∧ (k = 0 ∨ par k ≤ q)
  part : ∀ x ∈ Z, x ∈ s → ∃ k, k < M.length ∧ M.getD k 0 = x ∧ (k = 0 ∨ par k ≤ i)
variable {g : List (List Int)} {s : List Int} {u : Int} {M : List Int} {P : List (List Int)} {par : Nat → Nat} {i : Nat} {Z : List Int}
theorem Bft.start (hu : u ∈ s) : Bft g s u [u] [[u]] (fun _ => 0) 0 [] where
  len := rfl
  pos := by simp
  first := ⟨rfl, rfl⟩
  ins := by intro x hx; simp at hx; subst hx; exact hu
  nod := by simp
  path := by intro k h0 h1; simp at h1; omega
  mono := by intro k k' h0 h1 h2; simp at h2; omega
  done := by intro q hq; omega
  part := by intro x hx; cases hx
theorem getD_mem {M : List Int} {k : Nat} (h : k < M.length) : M.getD k 0 ∈ M := by rw [getD_eq M k h]; exact List.getElem_mem h
theorem Bft.skip (h : Bft g s u M P par i Z) (y : Int) (hy : y ∈ s → y ∈ M) : Bft g s u M P par i (Z ++ [y]) where
  len := h.len
  pos := h.pos
  first := h.first
  ins := h.ins
  nod := h.nod
  path := by
    intro k h0 h1
    obtain ⟨h2, h3, h4, h5⟩ := h.path k h0 h1
    exact ⟨h2, by rcases h3 with h3 | ⟨h3, h6⟩
                  · exact .inl h3
                  · exact .inr ⟨h3, List.mem_append_left _ h6⟩, h4, h5⟩
  mono := h.mono
  done := h.done
  part := by
    intro x hx hxs
    rcases List.mem_append.1 hx with hx | hx
    · exact h.part x hx hxs
    · simp at hx; subst hx
      obtain ⟨k, hk, he⟩ := List.mem_iff_getElem.1 (hy hxs)
      refine ⟨k, hk, by rw [getD_eq M k hk, he], ?_⟩
      rcases Nat.eq_zero_or_pos k with h0 | h0
      · exact .inl h0
      · have := (h.path k h0 hk).2.1
        right; omega
theorem getD_snocP (P : List (List Int)) (y : List Int) (k : Nat) (h : k ≤ P.length) : (P ++ [y]).getD k [] = if k < P.length then P.getD k [] else y := by
  by_cases hk : k < P.length
  · rw [if_pos hk, List.getD_eq_getElem?_getD, List.getElem?_append_left hk, List.getD_eq_getElem?_getD]
  · rw [if_neg hk, List.getD_eq_getElem?_getD, List.getElem?_append_right (by omega), show k - P.length = 0 by omega]; rfl
theorem Bft.take (h : Bft g s u M P par i Z) (y : Int) (hi : i < M.length) (hys : y ∈ s) (hyM : y ∉ M) (hyr : y ∈ row g (M.getD i 0)) (hZ : ∀ z ∈ Z, z < y) :
    Bft g s u (M ++ [y]) (P ++ [P.getD i [] ++ [y]]) (fun k => if k = M.length then i else par k) i (Z ++ [y]) := by
  have gm : ∀ k, k < M.length → (M ++ [y]).getD k 0 = M.getD k 0 := fun k hk => by rw [getD_snoc M y k (by omega), if_pos hk]
  have gl : (M ++ [y]).getD M.length 0 = y := by rw [getD_snoc M y _ (Nat.le_refl _), if_neg (Nat.lt_irrefl _)]
  have pm : ∀ k, k < M.length → (P ++ [P.getD i [] ++ [y]]).getD k [] = P.getD k [] := fun k hk => by rw [getD_snocP P _ k (by rw [h.len]; omega), if_pos (by rw [h.len]; exact hk)]
  have pl : (P ++ [P.getD i [] ++ [y]]).getD M.length [] = P.getD i [] ++ [y] := by rw [getD_snocP P _ _ (by rw [h.len]; exact Nat.le_refl _), if_neg (by rw [h.len]; exact Nat.lt_irrefl _)]
  have hpos := h.pos
  refine ⟨by simp [h.len], by simp, ?_, ?_, ?_, ?_, ?_, ?_, ?_⟩
  · rw [gm 0 hpos, pm 0 hpos]; exact h.first
  · intro x hx
    rcases List.mem_append.1 hx with hx | hx
    · exact h.ins x hx
    · simp at hx; subst hx; exact hys
  · rw [List.nodup_append]
    exact ⟨h.nod, by simp, fun a ha b hb => by simp at hb; subst hb; rintro rfl; exact hyM ha⟩
  · intro k h0 h1
    by_cases hk : k = M.length
    · subst hk
      simp only [if_true]
      rw [gl, pl, gm i hi, pm i hi]
      exact ⟨hi, .inr ⟨trivial, by simp⟩, hyr, rfl⟩
    · have hk2 : k < M.length := by simp at h1; omega
      obtain ⟨h2, h3, h4, h5⟩ := h.path k h0 hk2
      simp only [if_neg hk]
      rw [gm k hk2, pm k hk2, gm _ (by omega), pm _ (by omega)]
      exact ⟨h2, by rcases h3 with h3 | ⟨h3, h6⟩
                    · exact .inl h3
                    · exact .inr ⟨h3, List.mem_append_left _ h6⟩, h4, h5⟩
  · intro k k' h0 h1 h2
    have hk : k < M.length := by simp at h2; omega
    simp only [if_neg (show ¬ k = M.length by omega)]
    rw [gm k hk]
    by_cases hk' : k' = M.length
    · subst hk'
      simp only [if_true]
      rw [gl]
      rcases (h.path k h0 hk).2.1 with h3 | ⟨h3, h4⟩
      · exact .inl h3
      · exact .inr ⟨h3, hZ _ h4⟩
    · have hk2 : k' < M.length := by simp at h2; omega
      simp only [if_neg hk']
      rw [gm k' hk2]
      exact h.mono k k' h0 h1 hk2
  · intro q hq x hx hxs
    rw [gm q (by omega)] at hx
    obtain ⟨k, hk, h1, h2⟩ := h.done q hq x hx hxs
    refine ⟨k, by simp; omega, by rw [gm k hk, h1], ?_⟩
    simp only [if_neg (show ¬ k = M.length by omega)]
    exact h2
  · intro x hx hxs
    rcases List.mem_append.1 hx with hx | hx
    · obtain ⟨k, hk, h1, h2⟩ := h.part x hx hxs
      refine ⟨k, by simp; omega, by rw [gm k hk, h1], ?_⟩
      simp only [if_neg (show ¬ k = M.length by omega)]
      exact h2
    · simp at hx; subst hx
      exact ⟨M.length, by simp, gl, by simp⟩
theorem Bft.leave (h : Bft g s u M P par i (row g (M.getD i 0))) : Bft g s u M P par (i + 1) [] where
  len := h.len
  pos := h.pos
  first := h.first
  ins := h.ins
  nod := h.nod
  path := by
    intro k h0 h1
    obtain ⟨h2, h3, h4, h5⟩ := h.path k h0 h1
    exact ⟨h2, .inl (by rcases h3 with h3 | ⟨h3, _⟩ <;> omega), h4, h5⟩
  mono := h.mono
  done := by
    intro q hq x hx hxs
    by_cases e : q = i
    · subst e; exact h.part x hx hxs
    · exact h.done q (by omega) x hx hxs
  part := by intro x hx; cases hx
theorem getD_inj {M : List Int} (hn : M.Nodup) {a b : Nat} (ha : a < M.length) (hb : b < M.length) (h : M.getD a 0 = M.getD b 0) : a = b := by
  rw [getD_eq M a ha, getD_eq M b hb] at h
  rcases Nat.lt_trichotomy a b with h1 | h1 | h1
  · exact absurd h (List.pairwise_iff_getElem.1 hn a b ha hb h1)
  · exact h1
  · exact absurd h.symm (List.pairwise_iff_getElem.1 hn b a hb ha h1)
/-- The path that is found is the least one down the distances. -/
theorem Bft.found (h : Bft g s u M P par i []) (hs : SetP g s) {v : Int} (hv : v ∈ s) (hi : i < M.length) (hmv : M.getD i 0 = v) :
    ∃ d : Nat, far g s v u = d ∧ P.getD i [] = downL (rowsIn (g.map maskL) (maskL s)) (farL g s v) d u := by
  have hin : ∀ k, k < M.length → 0 ≤ M.getD k 0 ∧ M.getD k 0 < g.length := fun k hk => hs.2.1 _ (h.ins _ (getD_mem hk))
  have hdesc := desc_in hs hv
  suffices H : ∀ (q : Nat), ∀ (e : Nat) (T : List Int), q ≤ i → far g s v (M.getD q 0) = e → P.getD i [] = P.getD q [] ++ T → downL (rowsIn (g.map maskL) (maskL s)) (farL g s v) e (M.getD q 0) = M.getD q 0 :: T →
      (∀ r, r < q → ¬ (0 ≤ far g s v (M.getD r 0) ∧ far g s v (M.getD r 0) ≤ e)) → ∃ d : Nat, far g s v u = d ∧ P.getD i [] = downL (rowsIn (g.map maskL) (maskL s)) (farL g s v) d u by
    refine H i 0 [] (Nat.le_refl _) ?_ (by simp) ?_ ?_
    · rw [hmv]; exact far_zero.2 rfl
    · rw [hmv]; rfl
    · intro r hr ⟨h1, h2⟩
      have h3 : M.getD r 0 = v := (far_zero (g := g) (s := s)).1 (by omega)
      have := getD_inj h.nod (show r < M.length by omega) hi (by rw [h3, hmv])
      omega
  intro q
  induction q using Nat.strongRecOn with
  | ind q ih =>
    intro e T hq hf hp hd hK
    rcases Nat.eq_zero_or_pos q with h0 | h0
    · subst h0
      rw [h.first.1] at hf hd
      rw [h.first.2] at hp
      refine ⟨e, hf, ?_⟩
      rw [hp, hd]; rfl
    · obtain ⟨h1, _, h3, h4⟩ := h.path q h0 (by omega)
      have hrq := hin q (by omega)
      have hrp := hin (par q) (by omega)
      -- the distance ahead is one more
      have hle : 0 ≤ far g s v (M.getD (par q) 0) ∧ far g s v (M.getD (par q) 0) ≤ ((e + 1 : Nat) : Int) := by
        apply far_le
        obtain ⟨e2, h6, h7, _⟩ := far_spec (far_nonneg.1 (show 0 ≤ far g s v (M.getD q 0) by omega))
        obtain rfl : e2 = e := by omega
        obtain ⟨m, hm⟩ := Int.eq_ofNat_of_zero_le hrp.1
        refine .inr ⟨h.ins _ (getD_mem (by omega)), M.getD q 0, h7, ?_⟩
        have := hs.1.sym m (by omega) (M.getD q 0) (by rw [← hm]; exact h3)
        rwa [← hm] at this
      have hge := hK (par q) h1
      have hfp : far g s v (M.getD (par q) 0) = ((e + 1 : Nat) : Int) := by omega
      -- the hop
      have hRm : M.getD q 0 ∈ rowsIn (g.map maskL) (maskL s) (M.getD (par q) 0) := (rowsIn_mem hs hrp.1 hrp.2).2 ⟨h3, h.ins _ (getD_mem (by omega))⟩
      obtain ⟨x, hx, hxe⟩ := List.mem_iff_getElem.1 hRm
      have hhop : hop (rowsIn (g.map maskL) (maskL s) (M.getD (par q) 0)) (farL g s v) (e : Int) = M.getD q 0 := by
        rw [← hxe]
        refine hop_at hx ?_ (by rw [hxe, farL_get hrq.1 hrq.2, hf])
        intro j hj hc
        have hlt := List.pairwise_iff_getElem.1 (rowsIn_sorted _ _ _) j x (by omega) hx hj
        rw [hxe] at hlt
        have hzm := List.getElem_mem (l := rowsIn (g.map maskL) (maskL s) (M.getD (par q) 0)) (n := j) (by omega)
        generalize (rowsIn (g.map maskL) (maskL s) (M.getD (par q) 0))[j] = z at *
        obtain ⟨hz1, hz2⟩ := (rowsIn_mem hs hrp.1 hrp.2).1 hzm
        have hzr := hs.2.1 z hz2
        rw [farL_get hzr.1 hzr.2] at hc
        obtain ⟨r, hr, hrz, hr0⟩ := h.done (par q) (by omega) z hz1 hz2
        have hrlt : r < q := by
          rcases hr0 with hr0 | hr0
          · omega
          · apply Classical.byContradiction
            intro hn
            rcases Nat.lt_or_eq_of_le (Nat.le_of_not_lt hn) with h8 | h8
            · rcases h.mono q r h0 h8 hr with h9 | ⟨_, h9⟩
              · omega
              · rw [hrz] at h9; omega
            · subst h8; rw [hrz] at hlt; omega
        refine hK r hrlt ?_
        rw [hrz, hc]; omega
      refine ih (par q) h1 (e + 1) (M.getD q 0 :: T) (by omega) hfp ?_ ?_ ?_
      · rw [hp, h4, List.append_assoc]; rfl
      · rw [downL_succ, hhop, hd]
      · intro r hr ⟨h6, h7⟩
        have hrr := hin r (by omega)
        obtain ⟨f, hff⟩ := Int.eq_ofNat_of_zero_le h6
        cases f with
        | zero =>
          have h8 : M.getD r 0 = v := (far_zero (g := g) (s := s)).1 (by omega)
          have := getD_inj h.nod (show r < M.length by omega) hi (by rw [h8, hmv])
          omega
        | succ f =>
          obtain ⟨z, hz, hzd⟩ := hdesc.down (M.getD r 0) hrr.1 hrr.2 f (by rw [farL_get hrr.1 hrr.2, hff]; simp)
          obtain ⟨hz1, hz2⟩ := (rowsIn_mem hs hrr.1 hrr.2).1 hz
          have hzr := hs.2.1 z hz2
          rw [farL_get hzr.1 hzr.2] at hzd
          obtain ⟨r1, hr1, hr1z, hr10⟩ := h.done r (by omega) z hz1 hz2
          have hrlt : r1 < q := by
            rcases hr10 with hr10 | hr10
            · omega
            · apply Classical.byContradiction
              intro hn
              rcases Nat.lt_or_eq_of_le (Nat.le_of_not_lt hn) with h8 | h8
              · rcases h.mono q r1 h0 h8 hr1 with h9 | ⟨h9, _⟩ <;> omega
              · subst h8; omega
          refine hK r1 hrlt ?_
          rw [hr1z, hzd]; omega
/-- .. and where nothing is found there is none. -/
theorem Bft.none (h : Bft g s u M P par M.length []) (hs : SetP g s) {v : Int} (hv : v ∈ s) (hn : v ∉ M) : far g s v u < 0 := by
  have hdesc := desc_in hs hv
  apply Classical.byContradiction
  intro hc
  obtain ⟨d, hd⟩ := Int.eq_ofNat_of_zero_le (show 0 ≤ far g s v u by omega)
  have H : ∀ (d : Nat) (x : Int), x ∈ M → far g s v x = d → v ∈ M := by
    intro d
    induction d with
    | zero =>
      intro x hx hf
      have e : x = v := (far_zero (g := g) (s := s)).1 (by simpa using hf)
      rw [← e]; exact hx
    | succ d ih =>
      intro x hx hf
      have hxr := hs.2.1 x (h.ins x hx)
      obtain ⟨z, hz, hzd⟩ := hdesc.down x hxr.1 hxr.2 d (by rw [farL_get hxr.1 hxr.2, hf]; simp)
      obtain ⟨hz1, hz2⟩ := (rowsIn_mem hs hxr.1 hxr.2).1 hz
      have hzr := hs.2.1 z hz2
      rw [farL_get hzr.1 hzr.2] at hzd
      obtain ⟨q, hq, rfl⟩ := List.mem_iff_getElem.1 hx
      obtain ⟨k, hk, hkz, _⟩ := h.done q hq z (by rw [getD_eq M q hq]; exact hz1) hz2
      exact ih z (by rw [← hkz]; exact getD_mem hk) hzd
  refine hn (H d u ?_ hd)
  rw [← h.first.1]
  exact getD_mem h.pos
end
section
section
variable {P : Program} {ops : Array Oper} {rest : List Oper} {o : Oper} {a : Act} {Q : Exit → Act → World → Prop}
/-- append(s, x): the slice stays in its block, or lies in a new one. -/
theorem law_push_w {t e : TypeId} {z : Value} (hT : SliceT P t e z) (w : World) (hg : o.guard = none) (s x : Operand) (hop : o.op = .call { callee := .builtin .append, args := #[s, x], argTypes := #[t, t] })
    (B : Nat) (v : Value) (xs : List Value) (hs : a.eval s = v) (hown : Own e w B v xs) (u : Value) (g : Nat) (hx : a.eval x = .slice (some ⟨g, 0, none⟩) 1 1) (hgs : g = w.heap.size) (hu : u.oneCell' = true) (hn : xs.length < 1099511627776) (hB : B ≤ w.heap.size)
    (hK : ∀ v' w', Own e w' B v' (xs ++ [u]) → w.grownBy w' v.ownBlock → (v'.ownBlock = v.ownBlock ∨ ∃ k, v'.ownBlock = some k ∧ w.heap.size ≤ k) → wpList P ops Q rest (a.put o.dst v') w') :
    wpList P ops Q (o :: rest) a (w.alloc (.cells #[u] e)) := by
  subst hgs
  obtain ⟨ht, bytes, hby, hi0, hz⟩ := hT
  obtain ⟨i, hi, hz0, hz1, hz2⟩ := info_parts hi0
  have hown2 : (w.alloc (.cells #[u] e)).ownsRow B e 1 v xs.length xs := World.ownsRow.alloc hown _
  have hnews : ∀ j y, [u][j]? = some y → (w.alloc (.cells #[u] e)).cell? ((⟨w.heap.size, 0, none⟩ : Addr).add j) = some y := by
    intro j y hj
    have hj0 : j = 0 := by
      rcases Nat.eq_zero_or_pos j with h | h
      · exact h
      · rw [List.getElem?_eq_none (by simp; omega)] at hj; cases hj
    subst hj0
    have : u = y := by simpa using hj
    subst this
    simp [Addr.add]
  have hone : ∀ y ∈ [u], y.oneCell' = true := by intro y hy; simp at hy; subst hy; exact hu
  have hbytes : (xs.length + 1) * bytes ≤ 140737488355328 := Nat.le_trans (Nat.mul_le_mul_left _ hby) (by omega)
  obtain ⟨v', w', hr, h2, h3, _⟩ := run_append_own (P := P) (w.alloc (.cells #[u] e)) B t o.type e i z 1 bytes ht hi hz0 hz1 hz2 (by rw [hz]; rfl) (by decide) v xs.length xs hown2 ⟨w.heap.size, 0, none⟩ 1 1 [u] (by simp) hnews hone (by unfold maxLen; omega) hbytes (by simp; omega)
  have hwh : v'.ownBlock = v.ownBlock ∨ ∃ k, v'.ownBlock = some k ∧ w.heap.size ≤ k := by
    rcases hown2.2 with ⟨hv, _⟩ | ⟨g, cap, cur, hv, hbg, hgg, hnc, hcm, hcs, htake⟩
    · subst hv
      have hr2 := run_append_nil (P := P) (w.alloc (.cells #[u] e)) t o.type e i z ht hi hz0 ⟨w.heap.size, 0, none⟩ 1 1 [u] (by simp [hz1]) hnews (by decide) (by decide) (by rw [hz2]; omega)
      rw [hr2] at hr
      injection hr with e1 e2
      exact .inr ⟨_, by rw [← e1]; rfl, by simp⟩
    · subst hv
      by_cases hroom : xs.length + 1 ≤ cap
      · have hr2 := run_append_room (P := P) (w.alloc (.cells #[u] e)) t o.type e i ht hi g xs.length cap cur hgg ⟨w.heap.size, 0, none⟩ 1 1 [u] (by simp [hz1]) hnews hone hroom (by rw [hz1, hcs]; simp; omega)
        rw [hr2] at hr
        injection hr with e1 e2
        exact .inl (by rw [← e1]; rfl)
      · have hr2 := run_append_grow (P := P) (w.alloc (.cells #[u] e)) t o.type e i z ht hi hz0 ⟨g, 0, none⟩ xs.length cap xs (by rw [hz1]; simp) (hown2.cells (g := g) rfl) ⟨w.heap.size, 0, none⟩ 1 1 [u] (by simp [hz1]) hnews (by omega) (by omega) (by rw [hz2]; exact growslice_fits (by omega) hbytes)
        rw [hr2] at hr
        injection hr with e1 e2
        exact .inr ⟨_, by rw [← e1]; rfl, by simp⟩
  refine wpList_plain hg fun K hKK => ?_
  unfold Oper.wp execOp
  simp only [hop, resolve, invoke, builtin, Sem.run_bind, Sem.run_pure, Result.andThen_ok, List.map_toArray, List.map_cons, List.map_nil, hs, hx, hr]
  refine hKK _ _ (hK v' w' (by simpa [Own] using h2) ?_ hwh)
  exact ⟨h3.os, h3.tape, h3.output, Nat.le_trans (by simp) h3.size, fun k hk hne => (h3.block k (by simp; omega) hne).trans (Below.heap_alloc w _ k hk)⟩
end
theorem Inner.kept_sep {ei : TypeId} {w w' : World} {B : Nat} {rs : List Row} {row : Option Nat} (h : Inner ei w B rs) (hg : w.grownBy w' row) (hs : ∀ r ∈ rs, r.val.ownBlock = none ∨ r.val.ownBlock ≠ row) : Inner ei w' B rs :=
  ⟨fun r hr => (h.own r hr).kept hg (hs r hr), h.apart⟩
set_option maxHeartbeats 1000000 in
theorem l1Copy_any (a : Option Addr) (zs : List Int) (c : Nat) (w : World) (hz : Rd (Value.int .i64) w a zs) (hm : zs.length ≤ 1048576) (ha : a = none → c = 0) :
    Calls Tryd.prog 105 #[.slice a zs.length c] w (RetOwn 2 (zs.map (.int .i64)) w) := by
  have RZ := hid hz; clear hz
  have B0 := hid (alloc_below w (.cells #[] 2))
  have HO := hid (show Own 2 (w.alloc (.cells #[] 2)) w.heap.size (.slice (some ⟨w.heap.size, 0, none⟩) 0 0) [] from own_new 2 w [] (by decide))
  have RZ1 := hid (RZ.out.below B0.out (Nat.le_refl _))
  go_enter Tryd.func105, Tryd.ntmps105
  go_wp2_with (at_builtin; refine law_append tI64 _ rfl _ _ rfl (Value.int .i64) w.heap.size _ [] rfl HO.out a c zs rfl RZ1.out ha ?c0 ?c1 ?c2 ?_)
  case c0 => intro y _; rfl
  case c1 => simp; omega
  case c2 => simp
  intro v' w' h1 h2
  have ON := hid h1
  have B1 := hid (B0.out.trans (grown_below h2 B0.out.size (fun g hg => HO.out.ge g hg)))
  clear h1 h2
  go_wp2
  go_ret
  exact ⟨_, rfl, by simpa using ON.out, B1.out⟩
def insideL (g : List (List Int)) (x : Int) : List Int := (allL g.length).filter fun v => decide (v ≠ x ∧ v ∉ row g x)
end
section
noncomputable def aroS (g : List (List Int)) (s : List Int) (u v : Int) : List Int :=
  if u ∈ s ∧ v ∈ s ∧ 0 ≤ far g s v u then downL (rowsIn (g.map maskL) (maskL s)) (farL g s v) (far g s v u).toNat u else []
theorem Bft.last {g : List (List Int)} {s : List Int} {u : Int} {M : List Int} {P : List (List Int)} {par : Nat → Nat} {i : Nat} {Z : List Int} (h : Bft g s u M P par i Z) {k : Nat} (hk : k < M.length) : ∃ pre, P.getD k [] = pre ++ [M.getD k 0] := by
  rcases Nat.eq_zero_or_pos k with h0 | h0
  · subst h0; exact ⟨[], by rw [h.first.2, h.first.1]; rfl⟩
  · exact ⟨_, (h.path k h0 hk).2.2.2⟩
theorem Bft.sub {g : List (List Int)} {s : List Int} {u : Int} {M : List Int} {P : List (List Int)} {par : Nat → Nat} {i : Nat} {Z : List Int} (h : Bft g s u M P par i Z) : ∀ k, k < M.length → (P.getD k []).length ≤ k + 1 := by
  intro k
  induction k using Nat.strongRecOn with
  | ind k ih =>
    intro hk
    rcases Nat.eq_zero_or_pos k with h0 | h0
    · subst h0; rw [h.first.2]; simp
    · obtain ⟨h1, _, _, h4⟩ := h.path k h0 hk
      have := ih (par k) h1 (by omega)
      rw [h4, List.length_append]
      have e : [M.getD k 0].length = 1 := rfl
      omega
theorem nums_getD (rs : List Row) (k : Nat) (h : k < rs.length) : (nums rs).getD k [] = rs[k].z := by
  rw [List.getD_eq_getElem?_getD, List.getElem?_eq_getElem (by rw [nums_length]; exact h)]
  simp [nums]
set_option maxRecDepth 100000 in
set_option maxHeartbeats 1000000 in
theorem l14Path_any (a : Option Addr) (rs : List Row) (c : Nat) (a2 : Option Addr) (ys : List Int) (c2 u v : Nat) (w : World) (r : List Int) (hx : aroS (nums rs) ys u v = r) (hs : SetP (nums rs) ys) (hr : RdM w a rs) (hn : Small rs) (hz : Rd (Value.int .i64) w a2 ys) (_hu : u < rs.length) (hv : v < rs.length) :
    Calls Tryd.prog 87 #[.agg #[.slice a rs.length c], .slice a2 ys.length c2, .int .i64 u, .int .i64 v] w (RetOwn 2 (r.map (.int .i64)) w) := by
  have RA := hid hr; have RY := hid hz; have HX := hid hx; have HS := hid hs
  have hn1 := hn.1
  have hy16 : ys.length ≤ 16 := hs.len
  have h16 : rs.length ≤ 16 := by have := hs.1.le; rwa [nums_length] at this
  have hg1 : 1 ≤ rs.length := by omega
  clear hr hz hx hs
  obtain ⟨w0, hw0⟩ : ∃ w0, w0 = (w.alloc (.cells #[.slice a rs.length c] 28)) := ⟨_, rfl⟩
  have B0 := hid (show Below w.heap.size w w0 by rw [hw0]; exact ((Below.refl _ _).alloc (Nat.le_refl _) _))
  have c0 : w0.cell? ⟨w.heap.size, 0, none⟩ = some (.slice a rs.length c) := by rw [hw0]; simp [go_sem]
  replace RA := hid (RA.out.below B0.out (Nat.le_refl _))
  replace RY := hid (RY.out.below B0.out (Nat.le_refl _))
  have HW := hid hw0; clear hw0
  have hsz : w0.heap.size = w.heap.size + 1 := by rw [HW.out]; simp
  have HNEW := hid (show Own 2 (w0.alloc (.cells #[] 2)) w.heap.size (.slice (some ⟨w.heap.size + 1, 0, none⟩) 0 0) [] by have h := own_new 2 w0 [] (by decide); rw [hsz] at h; exact h.base (by omega))
  by_cases huv : (u : Int) ∈ ys ∧ (v : Int) ∈ ys
  · have HU := hid (show decide ((u : Int) ∈ ys) = true by simpa using huv.1)
    have HV := hid (show decide ((v : Int) ∈ ys) = true by simpa using huv.2)
    have HVS := hid huv.2
    have HB0 := hid (Bft.start (g := nums rs) huv.1)
    have HR := hid (show (if 0 ≤ far (nums rs) ys (v : Int) (u : Int) then downL (rowsIn ((nums rs).map maskL) (maskL ys)) (farL (nums rs) ys (v : Int)) (far (nums rs) ys (v : Int) (u : Int)).toNat (u : Int) else []) = r by
      rw [← HX.out]
      unfold aroS
      by_cases h0 : 0 ≤ far (nums rs) ys (v : Int) (u : Int)
      · rw [if_pos h0, if_pos ⟨huv.1, huv.2, h0⟩]
      · rw [if_neg h0, if_neg (fun h => h0 h.2.2)])
    clear HX huv
    -- the first list: one path, of u alone
    have hI1 := own_new 2 w0 [.int .i64 (u : Int)] (by simp [maxLen])
    have hb1 := alloc_below w0 (.cells #[.int .i64 (u : Int)] 2)
    have hIn1 := (Inner.nil 2 w0 w0.heap.size).snoc hb1 (Nat.le_refl _) ⟨some ⟨w0.heap.size, 0, none⟩, [(u : Int)], 1⟩ hI1
    have hO2 := own_new 25 (w0.alloc (.cells #[.int .i64 (u : Int)] 2)) [.slice (some ⟨w0.heap.size, 0, none⟩) 1 1] (by simp [maxLen])
    have hb2 := alloc_below (w0.alloc (.cells #[.int .i64 (u : Int)] 2)) (.cells #[.slice (some ⟨w0.heap.size, 0, none⟩) 1 1] 25)
    have hI3 := own_new 2 ((w0.alloc (.cells #[.int .i64 (u : Int)] 2)).alloc (.cells #[.slice (some ⟨w0.heap.size, 0, none⟩) 1 1] 25)) [.int .i64 (u : Int)] (by simp [maxLen])
    have hb3 := alloc_below ((w0.alloc (.cells #[.int .i64 (u : Int)] 2)).alloc (.cells #[.slice (some ⟨w0.heap.size, 0, none⟩) 1 1] 25)) (.cells #[.int .i64 (u : Int)] 2)
    have hs1 : (w0.alloc (.cells #[.int .i64 (u : Int)] 2)).heap.size = w0.heap.size + 1 := by simp
    have hs2 : ((w0.alloc (.cells #[.int .i64 (u : Int)] 2)).alloc (.cells #[.slice (some ⟨w0.heap.size, 0, none⟩) 1 1] 25)).heap.size = w0.heap.size + 2 := by simp
    have HOM := hid (show OwnM 25 2 (((w0.alloc (.cells #[.int .i64 (u : Int)] 2)).alloc (.cells #[.slice (some ⟨w0.heap.size, 0, none⟩) 1 1] 25)).alloc (.cells #[.int .i64 (u : Int)] 2)) w0.heap.size (.slice (some ⟨w0.heap.size + 1, 0, none⟩) 1 1) [⟨some ⟨w0.heap.size, 0, none⟩, [(u : Int)], 1⟩] from by
      refine ⟨?_, (hIn1.past hb2 (Nat.le_refl _)).past hb3 (Nat.le_refl _)⟩
      rw [← hs1]
      exact (hO2.past hb3 (Nat.le_refl _)).base (by rw [hs1]; omega))
    have HOS := hid (show Own 2 (((w0.alloc (.cells #[.int .i64 (u : Int)] 2)).alloc (.cells #[.slice (some ⟨w0.heap.size, 0, none⟩) 1 1] 25)).alloc (.cells #[.int .i64 (u : Int)] 2)) w0.heap.size (.slice (some ⟨w0.heap.size + 2, 0, none⟩) 1 1) ([(u : Int)].map (.int .i64)) from by
      rw [← hs2]
      exact hI3.base (by rw [hs2]; omega))
    have HSEP := hid (show ∀ r ∈ [(⟨some ⟨w0.heap.size, 0, none⟩, [(u : Int)], 1⟩ : Row)], r.val.ownBlock = none ∨ r.val.ownBlock ≠ (Value.slice (some ⟨w0.heap.size + 2, 0, none⟩) 1 1).ownBlock from by
      intro r hr
      simp at hr; subst hr
      right
      simp [Row.val, Value.ownBlock])
    have HBL := hid (show Below w0.heap.size w0 (((w0.alloc (.cells #[.int .i64 (u : Int)] 2)).alloc (.cells #[.slice (some ⟨w0.heap.size, 0, none⟩) 1 1] 25)).alloc (.cells #[.int .i64 (u : Int)] 2)) from (hb1.trans (hb2.mono (by rw [hs1]; omega))).trans (hb3.mono (by rw [hs2]; omega)))
    clear hI1 hb1 hIn1 hO2 hb2 hI3 hb3 hs1 hs2
    rw [hsz] at HOM HOS HSEP HBL
    go_enter Tryd.func87, Tryd.ntmps87
    go_wp2_with fail
    rw [← HW.out]
    go_wp2_with (first | (go_at_call_of 60 u; refine (l1Has_b _ _ _ _ _ _ HU.out RY.out (by omega)).mono ?_; rintro e w' ⟨rfl, rfl⟩) | (go_at_call_of 60 v; refine (l1Has_b _ _ _ _ _ _ HV.out RY.out (by omega)).mono ?_; rintro e w' ⟨rfl, rfl⟩))
    go_loopw [9, 10, 11, 12, 13, 14] (fun lv sv kv _ _ _ wr => ∃ (ps : List Row) (M : List Int) (par : Nat → Nat) (k : Nat), k ≤ M.length ∧ kv = .int .i64 k ∧ OwnM 25 2 wr (w.heap.size + 1) lv ps ∧ Own 2 wr (w.heap.size + 1) sv (M.map (.int .i64)) ∧ (∀ r ∈ ps, r.val.ownBlock = none ∨ r.val.ownBlock ≠ sv.ownBlock) ∧ Bft (nums rs) ys u M (nums ps) par k [] ∧ (∀ j, j < k → M.getD j 0 ≠ (v : Int)) ∧ Below w0.heap.size w0 wr) (fun _ _ kv _ _ _ _ => rs.length - (intOf kv).toNat)
    case atStart => exact ⟨_, _, _, 0, Nat.zero_le _, rfl, HOM.out, HOS.out, HSEP.out, HB0.out, fun j hj => absurd hj (Nat.not_lt_zero j), by rw [hsz]; exact HBL.out⟩
    case round =>
      obtain ⟨ps, M, par, k, hk, rfl, hom, hos, hsep, hbf, hnv, hb⟩ := hrel
      have OM := hid hom; have OS := hid hos; have HSE := hid hsep; have HBF := hid hbf; have HNV := hid hnv; have BL := hid hb
      clear hom hos hsep hnv
      have RA1 := hid (RA.out.below BL.out (Nat.le_refl _)); have RY1 := hid (RY.out.below BL.out (Nat.le_refl _))
      have B1 := hid (bon B0.out BL.out); have c1 := cellB BL.out c0 (Nat.le_refl _)
      clear hb
      have hpl : ps.length = M.length := by have := hbf.len; rwa [nums_length] at this
      have hML : M.length ≤ 16 := by
        have := nodup_le M rs.length hbf.nod (fun x hx => by have := HS.out.2.1 x (hbf.ins x hx); rwa [nums_length] at this)
        omega
      have HMN := hid (show M.length ≤ rs.length from nodup_le M rs.length hbf.nod (fun x hx => by have := HS.out.2.1 x (hbf.ins x hx); rwa [nums_length] at this))
      have HPL := hid hpl
      clear hbf hpl
      obtain ⟨la, lc, rfl, hlr, _, _, _⟩ := OM.out.rd
      have RL := hid hlr; clear hlr
      by_cases hlt : k < M.length
      · have hkp : k < ps.length := by have := HPL.out; omega
        have hki : (k : Int) < (ps.length : Int) := by omega
        obtain ⟨lb, lo, rfl, ck, hkok⟩ := RL.out.at k hkp
        have hin := HS.out.2.1 _ (HBF.out.ins _ (getD_mem hlt))
        rw [nums_length] at hin
        obtain ⟨pre, hpre⟩ := HBF.out.last hlt
        rw [nums_getD ps k hkp] at hpre
        have OQK := hid (OM.out.inner.own _ (List.getElem_mem hkp))
        have HPK := hid (nums_getD ps k hkp)
        have HQN := hid hkok.2.2.2
        have hql := HBF.out.sub k hlt
        rw [HPK.out] at hql
        have hql2 : ps[k].z.length = pre.length + 1 := by rw [hpre]; simp
        have RQ := hid hkok.1
        obtain ⟨qb, qo, hqa, cq⟩ := hkok.1 pre.length (by omega)
        have hgl : ps[k].z[pre.length]'(by omega) = M.getD k 0 := by simp [hpre]
        rw [hgl] at cq
        have HPRE := hid hpre
        clear hkok hpre hgl
        have HMK := hid (show M.getD k 0 = M.getD k 0 from rfl)
        generalize hmk : M.getD k 0 = x at *
        replace HMK := hid hmk; clear hmk
        obtain ⟨m, rfl⟩ := Int.eq_ofNat_of_zero_le hin.1
        have hm : m < rs.length := by omega
        have hmi : (m : Int) < (rs.length : Int) := by omega
        have hatq := at_slice tI64 hqa (pre.length + 1) ps[k].c pre.length (by omega)
        have HQA := hid hqa; clear hqa
        rw [hql2] at ck
        generalize hLL : pre.length = L at *
        have hLi : (L : Int) < ((L + 1 : Nat) : Int) := by omega
        have hL1 : ((L + 1 : Nat) : Int) - 1 = (L : Int) := by omega
        by_cases hmv : m = v
        · have dmv : ((m : Int) == (v : Int)) = true := by rw [hmv]; simp
          have HRR := hid (show ps[k].z = r by
            obtain ⟨d, hd1, hd2⟩ := HBF.out.found HS.out HVS.out hlt (by rw [HMK.out, hmv])
            have h := HR.out
            rw [if_pos (by omega), hd1] at h
            rw [← HPK.out, hd2, ← h]; rfl)
          go_wp2
          have qc1 := fun (p : Bel _) => cellB p.h c1 (Nat.le_refl _)
          have qck := fun (p : Bel _) => cellB p.h ck (Nat.le_refl _)
          have qcq := fun (p : Bel _) => cellB p.h cq (Nat.le_refl _)
          refine wp_quiet_b (by kernel_rfl) (by kernel_rfl) ?_
          repeat (go_big_quiet_step (fail))
          refine wpQuiet_nil ?_
          intro _ hw'
          obtain ⟨⟨w1, hb⟩, rfl⟩ := hw'
          clear qc1 qck qcq
          replace RA1 := hid (RA1.out.below hb (Nat.le_refl _))
          replace RY1 := hid (RY1.out.below hb (Nat.le_refl _))
          replace RL := hid (RL.out.below hb (Nat.le_refl _))
          replace B1 := hid (bon B1.out hb)
          replace c1 := cellB hb c1 (Nat.le_refl _)
          replace OM := hid (OM.out.past hb (Nat.le_refl _))
          replace OS := hid (OS.out.past hb (Nat.le_refl _))
          replace BL := hid (bon BL.out hb)
          replace ck := cellB hb ck (Nat.le_refl _)
          replace cq := cellB hb cq (Nat.le_refl _)
          replace OQK := hid (OQK.out.past hb (Nat.le_refl _))
          clear hb
          go_wp2
          go_ret
          refine ⟨_, rfl, ?_, B1.out⟩
          rw [← HRR.out]
          have h := OQK.out
          unfold Row.val at h
          rw [hql2] at h
          exact h.base (by omega)
        · have dmv : ((m : Int) == (v : Int)) = false := by simp; omega
          obtain ⟨ab, ao, rfl, cv0, hvok⟩ := RA.out.at m hm
          have RP0 := hid hvok.1
          have HRW := hid (row_rs rs m hm)
          have HINC := hid (HS.out.1.inc m (by rw [nums_length]; exact hm))
          rw [HRW.out] at HINC
          have hzp := hn.2 _ (List.getElem_mem hm)
          have HNV2 := hid (show ∀ j, j < k + 1 → M.getD j 0 ≠ (v : Int) from fun j hj => by
            by_cases e : j = k
            · subst e; rw [HMK.out]; omega
            · exact HNV.out j (by omega))
          clear hvok HNV
          generalize rs[m] = p at *
          go_wp2
          have qc1 := fun (p : Bel _) => cellB p.h c1 (Nat.le_refl _)
          have qck := fun (p : Bel _) => cellB p.h ck (Nat.le_refl _)
          have qcq := fun (p : Bel _) => cellB p.h cq (Nat.le_refl _)
          refine wp_quiet_b (by kernel_rfl) (by kernel_rfl) ?_
          repeat (go_big_quiet_step (fail))
          refine wpQuiet_nil ?_
          intro _ hw'
          obtain ⟨⟨w2, hb⟩, rfl⟩ := hw'
          clear qc1 qck qcq
          replace RA1 := hid (RA1.out.below hb (Nat.le_refl _))
          replace RY1 := hid (RY1.out.below hb (Nat.le_refl _))
          replace RL := hid (RL.out.below hb (Nat.le_refl _))
          replace B1 := hid (bon B1.out hb)
          replace c1 := cellB hb c1 (Nat.le_refl _)
          replace OM := hid (OM.out.past hb (Nat.le_refl _))
          replace OS := hid (OS.out.past hb (Nat.le_refl _))
          replace BL := hid (bon BL.out hb)
          replace ck := cellB hb ck (Nat.le_refl _)
          replace cq := cellB hb cq (Nat.le_refl _)
          replace OQK := hid (OQK.out.past hb (Nat.le_refl _))
          clear hb
          have HB0q := hid (show Bft (nums rs) ys u M (nums ps) par k (p.z.take 0) from HBF.out)
          go_wp2
          go_loopw [9, 10, 13, 14] (fun lv sv jv _ wq => ∃ (ps : List Row) (M : List Int) (par : Nat → Nat) (j : Nat), j ≤ p.z.length ∧ jv = .int .i64 j ∧ OwnM 25 2 wq (w.heap.size + 1) lv ps ∧ Own 2 wq (w.heap.size + 1) sv (M.map (.int .i64)) ∧ (∀ r ∈ ps, r.val.ownBlock = none ∨ r.val.ownBlock ≠ sv.ownBlock) ∧ Bft (nums rs) ys u M (nums ps) par k (p.z.take j) ∧ k < M.length ∧ M.getD k 0 = (m : Int) ∧ (∀ j', j' < k + 1 → M.getD j' 0 ≠ (v : Int)) ∧ Below w0.heap.size w0 wq) (fun _ _ jv _ _ => p.z.length - (intOf jv).toNat)
          case atStart => exact ⟨ps, M, par, 0, Nat.zero_le _, rfl, OM.out, OS.out, HSE.out, HB0q.out, hlt, HMK.out, HNV2.out, BL.out⟩
          case round =>
            clear RA1 RY1 RL B1 c1 OM OS BL ck cq OQK HBF HSE HNV2 HB0q HPRE
            obtain ⟨ps2, M2, par2, j, hj, rfl, hom, hos, hsep, hbf, hkM, hmk, hnv2, hb⟩ := hrel
            have OM2 := hid hom; have OS2 := hid hos; have HSE2 := hid hsep; have HBF2 := hid hbf; have HNV3 := hid hnv2; have BL2 := hid hb; have HMK2 := hid hmk
            have RY2 := hid (RY.out.below hb (Nat.le_refl _)); have RP2 := hid (RP0.out.below hb (Nat.le_refl _)); have c2' := cellB hb c0 (Nat.le_refl _); have cv2 := cellB hb cv0 (Nat.le_refl _); have B2 := hid (bon B0.out hb)
            have hszq := hb.size
            clear hom hos hsep hnv2 hb hmk
            have hpl2 : ps2.length = M2.length := by have := hbf.len; rwa [nums_length] at this
            have hMN2 : M2.length ≤ rs.length := nodup_le M2 rs.length hbf.nod (fun x hx => by have := HS.out.2.1 x (hbf.ins x hx); rwa [nums_length] at this)
            have hqk := hbf.sub k hkM
            have hkp2 : k < ps2.length := by omega
            rw [nums_getD ps2 k hkp2] at hqk
            have HPL2 := hid hpl2
            clear hbf hpl2
            obtain ⟨la2, lc2, rfl, hlr2, _⟩ := OM2.out.rd
            obtain ⟨sa, sc, rfl, hsr, _⟩ := Own.rd OS2.out
            have RM2 := hid hsr; clear hsr hlr2
            by_cases hlj : j < p.z.length
            · obtain ⟨pb, po, hpa, cj⟩ := RP2.out j hlj
              have hji : (j : Int) < (p.z.length : Int) := by omega
              have hatj := at_slice tI64 hpa p.z.length p.c j hlj
              have HPA := hid hpa; clear hpa
              have HYM := hid (List.getElem_mem hlj)
              have HZ := hid (show ∀ z ∈ p.z.take j, z < p.z[j] from fun z hz => by
                obtain ⟨i, hi, rfl⟩ := List.mem_iff_getElem.1 hz
                rw [List.length_take] at hi
                rw [List.getElem_take]
                exact List.pairwise_iff_getElem.1 HINC.out.2 i j (by omega) hlj (by omega))
              have HTS := hid (List.take_succ_eq_append_getElem hlj)
              generalize p.z[j] = y at *
              by_cases hys : y ∈ ys
              · have HA := hid (show decide (y ∈ ys) = true by simpa using hys)
                by_cases hyM : y ∈ M2
                · have HM := hid (show decide (y ∈ M2) = true by simpa using hyM)
                  have HSK := hid (HBF2.out.skip y (fun _ => hyM))
                  rw [← HTS.out] at HSK
                  clear hys hyM
                  go_wp2_with (first | (go_at_call_of 60 a2; refine (l1Has_b _ _ _ _ _ _ HA.out RY2.out (by omega)).mono ?_; rintro e w' ⟨rfl, rfl⟩) | (go_at_call_of 60 sa; refine (l1Has_b _ _ _ _ _ _ HM.out RM2.out (by omega)).mono ?_; rintro e w' ⟨rfl, rfl⟩))
                  go_wp2
                  go_roundw
                  case rel => exact ⟨ps2, M2, par2, j + 1, by omega, by go_num, OM2.out, OS2.out, HSE2.out, HSK.out, hkM, HMK2.out, HNV3.out, BL2.out⟩
                  case measure => simp [intOf]; omega
                · have HM := hid (show decide (y ∈ M2) = false by simpa using hyM)
                  have HTK := hid (HBF2.out.take y hkM hys hyM (by rw [HMK2.out, HRW.out]; exact HYM.out) HZ.out)
                  rw [← HTS.out] at HTK
                  have HGM := hid (show ∀ i, i < M2.length → (M2 ++ [y]).getD i 0 = M2.getD i 0 from fun i hi => by rw [getD_snoc M2 y i (by omega), if_pos hi])
                  clear hys hyM
                  have hML2 : (M2.map (Value.int .i64)).length ≤ 16 := by rw [List.length_map]; omega
                  go_wp2_with (first | (go_at_call_of 60 a2; refine (l1Has_b _ _ _ _ _ _ HA.out RY2.out (by omega)).mono ?_; rintro e w' ⟨rfl, rfl⟩) | (go_at_call_of 60 sa; refine (l1Has_b _ _ _ _ _ _ HM.out RM2.out (by omega)).mono ?_; rintro e w' ⟨rfl, rfl⟩) | (at_builtin; refine law_push_w tI64 _ rfl _ _ rfl (w.heap.size + 1) _ (M2.map (.int .i64)) rfl OS2.out _ _ rfl ?c0 rfl ?c1 ?c2 ?_))
                  case c0 => simp
                  case c1 => omega
                  case c2 => omega
                  intro v' w5 h1 h2 hwh
                  have OS5 := hid (show Own 2 w5 (w.heap.size + 1) v' ((M2 ++ [y]).map (.int .i64)) by rw [List.map_append]; exact h1)
                  have IN5 := hid (OM2.out.inner.kept_sep h2 HSE2.out)
                  have OM5 := hid (OwnM.mk (OM2.out.outer.kept h2 (OM2.out.outer.ne OS2.out (by decide))) IN5.out)
                  have LB5 := hid (BL2.out.trans (grown_below h2 hszq (fun g hg => by have := OS2.out.ge g hg; omega)))
                  have hs5 := h2.size
                  have SE5 := hid (show ∀ r ∈ ps2, r.val.ownBlock = none ∨ r.val.ownBlock ≠ v'.ownBlock from fun r hr => by
                    rcases hwh with h | ⟨q, h, hq⟩
                    · rw [h]; exact HSE2.out r hr
                    · right; rw [h]; intro e; have := (OM2.out.inner.own r hr).lt _ e; omega)
                  clear h1 h2 hwh IN5 OM2 OS2 HSE2 BL2 RM2 RY2 RP2 cj cv2 c2'
                  have RL5 := hid (OwnM.rdm OM5.out)
                  have hki2 : (k : Int) < (ps2.length : Int) := by omega
                  obtain ⟨lb, lo, rfl, ck5, hkok5⟩ := RL5.out.at k hkp2
                  have HK5 := hid hkok5; clear hkok5
                  have HPK2 := hid (nums_getD ps2 k hkp2)
                  rw [HPK2.out] at HTK
                  go_wp2_with fail
                  refine (l1Copy_any _ _ _ _ HK5.out.1 (by omega) HK5.out.2.2.2).mono ?_
                  rintro e w6 ⟨cc, rfl, hown, hb⟩
                  have OC6 := hid hown; have HB6 := hid hb
                  have hs6 := hb.size
                  clear hown hb
                  have hQl : ((ps2[k]'hkp2).z.map (Value.int .i64)).length ≤ 17 := by rw [List.length_map]; omega
                  go_wp2_with (at_builtin; refine law_push tI64 _ rfl _ _ rfl w5.heap.size _ ((ps2[k]'hkp2).z.map (.int .i64)) rfl OC6.out _ _ rfl ?d0 rfl ?d1 ?d2 ?_)
                  case d0 => simp
                  case d1 => omega
                  case d2 => exact hs6
                  intro v7 w7 h3 h4
                  have B57 := hid (HB6.out.trans (grown_below h4 HB6.out.size (fun g hg => OC6.out.ge g hg)))
                  have O7 := hid (show Own 2 w7 w5.heap.size v7 (((ps2[k]'hkp2).z ++ [y]).map (.int .i64)) by rw [List.map_append]; exact h3)
                  clear h3 h4 OC6 HB6
                  obtain ⟨a7, c7, rfl, _⟩ := Own.rd O7.out
                  have OM7 := hid (OM5.out.past B57.out (Nat.le_refl _))
                  have IN7 := hid (OM5.out.inner.snoc B57.out (by omega) ⟨a7, (ps2[k]'hkp2).z ++ [y], c7⟩ O7.out)
                  have OS7 := hid (OS5.out.past B57.out (Nat.le_refl _))
                  have LB7 := hid (LB5.out.trans (B57.out.mono (by omega)))
                  have hs7 := B57.out.size
                  have SE7 := hid (show ∀ r ∈ ps2 ++ [(⟨a7, (ps2[k]'hkp2).z ++ [y], c7⟩ : Row)], r.val.ownBlock = none ∨ r.val.ownBlock ≠ v'.ownBlock from fun r hr => by
                    rcases List.mem_append.1 hr with hr | hr
                    · exact SE5.out r hr
                    · simp at hr; subst hr
                      right
                      intro e
                      cases hv : v'.ownBlock with
                      | none =>
                        rcases OS5.out.form with ⟨_, hnil⟩ | ⟨g, cap, spare, hform, _⟩
                        · simp at hnil
                        · rw [hform] at hv; cases hv
                      | some g =>
                        have h8 := OS5.out.lt g hv
                        have h9 := O7.out.ge g (by rw [← hv]; exact e)
                        omega)
                  have hPl : (ps2.map Row.val).length ≤ 16 := by rw [List.length_map]; have := HPL2.out; omega
                  go_wp2_with (at_builtin; refine law_push tRows _ rfl _ _ rfl (w.heap.size + 1) _ (ps2.map Row.val) rfl OM7.out.outer _ _ rfl ?e0 rfl ?e1 ?e2 ?_)
                  case e0 => simp
                  case e1 => omega
                  case e2 => omega
                  intro v8 w8 h5 h6
                  have h5b : Own 25 w8 (w.heap.size + 1) v8 (ps2.map Row.val ++ [(⟨a7, (ps2[k]'hkp2).z ++ [y], c7⟩ : Row).val]) := by
                    show Own 25 w8 (w.heap.size + 1) v8 (ps2.map Row.val ++ [.slice a7 ((ps2[k]'hkp2).z ++ [y]).length c7])
                    rw [show ((ps2[k]'hkp2).z ++ [y]).length = (ps2[k]'hkp2).z.length + 1 by simp]
                    exact h5
                  have OM8 := hid (rows_push (by decide) OM7.out.outer IN7.out h5b h6)
                  have OS8 := hid (OS7.out.kept h6 (OS7.out.ne OM7.out.outer (by decide)))
                  have LB8 := hid (LB7.out.trans (grown_below h6 LB7.out.size (fun g hg => by have := OM7.out.outer.ge g hg; omega)))
                  rw [← nums_push ps2 ⟨a7, (ps2[k]'hkp2).z ++ [y], c7⟩] at HTK
                  clear h5 h5b h6
                  go_wp2
                  go_roundw
                  case rel => exact ⟨_, M2 ++ [y], _, j + 1, by omega, by go_num, OM8.out, OS8.out, SE7.out, HTK.out, by simp; omega, by rw [HGM.out k hkM]; exact HMK2.out, fun j' hj' => by rw [HGM.out j' (by omega)]; exact HNV3.out j' hj', LB8.out⟩
                  case measure => simp [intOf]; omega
              · have HA := hid (show decide (y ∈ ys) = false by simpa using hys)
                have HSK := hid (HBF2.out.skip y (fun h => absurd h hys))
                rw [← HTS.out] at HSK
                clear hys
                go_wp2_with (first | (go_at_call_of 60 a2; refine (l1Has_b _ _ _ _ _ _ HA.out RY2.out (by omega)).mono ?_; rintro e w' ⟨rfl, rfl⟩))
                go_wp2
                go_roundw
                case rel => exact ⟨ps2, M2, par2, j + 1, by omega, by go_num, OM2.out, OS2.out, HSE2.out, HSK.out, hkM, HMK2.out, HNV3.out, BL2.out⟩
                case measure => simp [intOf]; omega
            · obtain rfl : j = p.z.length := by omega
              have HLV := hid (Bft.leave (g := nums rs) (s := ys) (u := (u : Int)) (M := M2) (P := nums ps2) (par := par2) (i := k) (by rw [HMK2.out, HRW.out]; have h := HBF2.out; rwa [List.take_length] at h))
              go_wp2
              go_roundw
              case rel => exact ⟨ps2, M2, par2, k + 1, by omega, by go_num, OM2.out, OS2.out, HSE2.out, HLV.out, HNV3.out, BL2.out⟩
              case measure => simp [intOf]; omega
      · obtain rfl : k = M.length := by omega
        have HNO := hid (HBF.out.none HS.out HVS.out (fun hm => by
          obtain ⟨j, hj, he⟩ := List.mem_iff_getElem.1 hm
          exact HNV.out j hj (by rw [getD_eq M j hj, he])))
        have HRR := hid (show [] = r by have := HR.out; rw [if_neg (by have := HNO.out; omega)] at this; exact this)
        have hki : ¬ (M.length : Int) < (ps.length : Int) := by have := HPL.out; omega
        go_wp2
        go_ret
        rw [← HRR.out]
        exact ⟨_, rfl, (own_new 2 _ [] (by decide)).base B1.out.size, B1.out.trans ((alloc_below _ _).mono B1.out.size)⟩
  · have HFIN := hid (show [] = r by
      rw [← HX.out]; unfold aroS
      rw [if_neg (fun h => huv ⟨h.1, h.2.1⟩)])
    by_cases hu1 : (u : Int) ∈ ys
    · have HU := hid (show decide ((u : Int) ∈ ys) = true by simpa using hu1)
      have HV := hid (show decide ((v : Int) ∈ ys) = false by simpa using fun h => huv ⟨hu1, h⟩)
      clear huv hu1 HX
      go_enter Tryd.func87, Tryd.ntmps87
      go_wp2_with fail
      rw [← HW.out]
      go_wp2_with (first | (go_at_call_of 60 u; refine (l1Has_b _ _ _ _ _ _ HU.out RY.out (by omega)).mono ?_; rintro e w' ⟨rfl, rfl⟩) | (go_at_call_of 60 v; refine (l1Has_b _ _ _ _ _ _ HV.out RY.out (by omega)).mono ?_; rintro e w' ⟨rfl, rfl⟩))
      go_ret
      rw [← HFIN.out]
      exact ⟨_, rfl, HNEW.out, B0.out.trans ((alloc_below _ _).mono B0.out.size)⟩
    · have HU := hid (show decide ((u : Int) ∈ ys) = false by simpa using hu1)
      clear huv hu1 HX
      go_enter Tryd.func87, Tryd.ntmps87
      go_wp2_with fail
      rw [← HW.out]
      go_wp2_with (first | (go_at_call_of 60 u; refine (l1Has_b _ _ _ _ _ _ HU.out RY.out (by omega)).mono ?_; rintro e w' ⟨rfl, rfl⟩))
      go_ret
      rw [← HFIN.out]
      exact ⟨_, rfl, HNEW.out, B0.out.trans ((alloc_below _ _).mono B0.out.size)⟩
end
section
def ThreeP (g : List (List Int)) (x y z : Int) : Prop := GOk g ∧ (0 ≤ x ∧ x < g.length) ∧ (0 ≤ y ∧ y < g.length) ∧ (0 ≤ z ∧ z < g.length) ∧ x ≠ y ∧ x ≠ z ∧ y ≠ z
noncomputable instance (g : List (List Int)) (x y z : Int) : Decidable (ThreeP g x y z) := Classical.propDecidable _
noncomputable def aroL (g : List (List Int)) (x y z : Int) : List Int := if ThreeP g x y z then aroS g (insideL g z) x y else []
theorem insideL_set {g : List (List Int)} (hg : GOk g) (z : Int) : SetP g (insideL g z) := by
  refine ⟨hg, ?_, ?_⟩
  · intro v hv
    exact (allL_mem _ _).1 (List.mem_filter.1 hv).1
  · exact (allL_inc _).2.filter _
theorem aroS_len {g : List (List Int)} {s : List Int} (hs : SetP g s) (u v : Int) : (aroS g s u v).length ≤ 16 := by
  unfold aroS
  split
  · rename_i h
    rw [downL_len]
    have hu := hs.2.1 u h.1
    have := down_le (desc_in hs h.2.1) (d := (far g s v u).toNat) hu.1 hu.2 (by rw [farL_get hu.1 hu.2, Int.toNat_of_nonneg h.2.2])
    have := hs.1.le
    omega
  · simp
theorem aroL_len (g : List (List Int)) (x y z : Int) : (aroL g x y z).length ≤ 1048576 := by
  unfold aroL
  split
  · rename_i h
    have := aroS_len (insideL_set h.1 z) x y
    omega
  · simp
theorem aroL_no {g : List (List Int)} {x y z : Int} (h : ¬ ThreeP g x y z) : aroL g x y z = [] := by unfold aroL; rw [if_neg h]
def insideTo (g : List (List Int)) (x : Int) (k : Nat) : List Int := (allL k).filter fun v => decide (v ≠ x ∧ v ∉ row g x)
theorem insideTo_succ (g : List (List Int)) (x : Int) (k : Nat) : insideTo g x (k + 1) = insideTo g x k ++ if (k : Int) ≠ x ∧ (k : Int) ∉ row g x then [(k : Int)] else [] := by
  unfold insideTo
  rw [allL_succ, List.filter_append]
  by_cases h : (k : Int) ≠ x ∧ (k : Int) ∉ row g x
  · rw [if_pos h]; simp [h]
  · rw [if_neg h]; congr 1; rw [List.filter_eq_nil_iff]; intro a ha; simp at ha; subst ha; simpa using h
theorem insideTo_len (g : List (List Int)) (x : Int) (k : Nat) : (insideTo g x k).length ≤ k := by
  refine Nat.le_trans (List.length_filter_le _ _) ?_
  rw [allL_len]; exact Nat.le_refl _
set_option maxHeartbeats 1000000 in
theorem l14Inside_any (a : Option Addr) (rs : List Row) (c x : Nat) (w : World) (hr : RdM w a rs) (hn : Small rs) (hx : x < rs.length) (h16 : rs.length ≤ 16) :
    Calls Tryd.prog 88 #[.agg #[.slice a rs.length c], .int .i64 x] w (RetOwn 2 ((insideL (nums rs) x).map (.int .i64)) w) := by
  have HRW := hid (row_rs rs x hx)
  have HLL := hid (nums_length rs)
  have hzv := hn.2 _ (List.getElem_mem hx)
  obtain ⟨ab, ao, rfl, cv, hvok⟩ := hr.at x hx
  have RP := hid hvok.1
  clear hr hvok
  have hxi : (x : Int) < (rs.length : Int) := by omega
  generalize rs[x] = p at *
  obtain ⟨w0, hw0⟩ : ∃ w0, w0 = (w.alloc (.cells #[.slice (some ⟨ab, ao, none⟩) rs.length c] 28)) := ⟨_, rfl⟩
  have B0 := hid (show Below w.heap.size w w0 by rw [hw0]; exact ((Below.refl _ _).alloc (Nat.le_refl _) _))
  have c0 : w0.cell? ⟨w.heap.size, 0, none⟩ = some (.slice (some ⟨ab, ao, none⟩) rs.length c) := by rw [hw0]; simp [go_sem]
  replace RP := hid (RP.out.below B0.out (Nat.le_refl _))
  have HW := hid hw0; clear hw0
  replace cv := cellB B0.out cv (Nat.le_refl _)
  have hsz : w0.heap.size = w.heap.size + 1 := by rw [HW.out]; simp
  have HO := hid (show Own 2 (w0.alloc (.cells #[] 2)) w0.heap.size (.slice (some ⟨w0.heap.size, 0, none⟩) 0 0) ((insideTo (nums rs) x 0).map (.int .i64)) from own_new 2 w0 [] (by decide))
  rw [hsz] at HO
  have HE0 := hid (alloc_below w0 (.cells #[] 2))
  go_enter Tryd.func88, Tryd.ntmps88
  go_wp2
  rw [← HW.out]
  go_loopw [5, 6] (fun o kv wr => ∃ k : Nat, k ≤ rs.length ∧ kv = .int .i64 k ∧ Own 2 wr (w.heap.size + 1) o ((insideTo (nums rs) x k).map (.int .i64)) ∧ Below w0.heap.size w0 wr) (fun _ kv _ => rs.length - (intOf kv).toNat)
  case atStart => exact ⟨0, Nat.zero_le _, rfl, HO.out, HE0.out⟩
  case round =>
    obtain ⟨k, hk, rfl, ho, hb⟩ := hrel
    have OI := hid ho; have LI := hid hb; clear ho
    replace RP := hid (RP.out.below hb (Nat.le_refl _))
    replace B0 := hid (bon B0.out hb)
    replace c0 := cellB hb c0 (Nat.le_refl _)
    replace cv := cellB hb cv (Nat.le_refl _)
    clear hb
    by_cases hlt : k < rs.length
    · have hki : (k : Int) < (rs.length : Int) := by omega
      have HS := hid (insideTo_succ (nums rs) (x : Int) k)
      rw [HRW.out] at HS
      have hlen := insideTo_len (nums rs) (x : Int) k
      have hlen2 : ((insideTo (nums rs) (x : Int) k).map (Value.int .i64)).length ≤ 16 := by rw [List.length_map]; omega
      by_cases hkx : k = x
      · have dne : ((k : Int) != (x : Int)) = false := by rw [hkx]; simp
        rw [if_neg (fun h => h.1 (by omega)), List.append_nil] at HS
        go_wp2
        go_roundw
        case rel => exact ⟨k + 1, by omega, by go_num, by rw [HS.out]; exact OI.out, LI.out⟩
        case measure => simp [intOf]; omega
      · have dne : ((k : Int) != (x : Int)) = true := by simp; omega
        by_cases hkr : (k : Int) ∈ p.z
        · have HM := hid (show decide ((k : Int) ∈ p.z) = true by simpa using hkr)
          rw [if_neg (fun h => h.2 hkr), List.append_nil] at HS
          clear hkr
          go_wp2_with (first | (go_at_call 60; refine (l1Has_b _ _ _ _ _ _ HM.out RP.out (by omega)).mono ?_; rintro e w' ⟨rfl, rfl⟩))
          go_wp2
          go_roundw
          case rel => exact ⟨k + 1, by omega, by go_num, by rw [HS.out]; exact OI.out, LI.out⟩
          case measure => simp [intOf]; omega
        · have HM := hid (show decide ((k : Int) ∈ p.z) = false by simpa using hkr)
          rw [if_pos ⟨by omega, hkr⟩] at HS
          clear hkr
          have hszr := LI.out.size
          go_wp2_with (first | (go_at_call 60; refine (l1Has_b _ _ _ _ _ _ HM.out RP.out (by omega)).mono ?_; rintro e w' ⟨rfl, rfl⟩) | (at_builtin; refine law_push tI64 _ rfl _ _ rfl (w.heap.size + 1) _ ((insideTo (nums rs) (x : Int) k).map (.int .i64)) rfl OI.out _ _ rfl ?c0 rfl ?c1 ?c2 ?_))
          case c0 => simp
          case c1 => omega
          case c2 => omega
          intro v' w' h1 h2
          have HN := hid h1
          have HBB := hid (LI.out.trans (grown_below h2 hszr (fun g hg => by have := OI.out.ge g hg; omega)))
          clear h1 h2
          go_wp2
          go_roundw
          case rel => exact ⟨k + 1, by omega, by go_num, by rw [HS.out, List.map_append]; exact HN.out, HBB.out⟩
          case measure => simp [intOf]; omega
    · obtain rfl : k = rs.length := by omega
      go_wp2
      go_ret
      refine ⟨_, rfl, ?_, B0.out⟩
      have h := OI.out
      unfold insideTo at h
      unfold insideL
      rw [HLL.out]
      exact h.base (by omega)
set_option maxRecDepth 100000 in
set_option maxHeartbeats 1000000 in
theorem l14Three_b (a : Option Addr) (rs : List Row) (c : Nat) (x y z : Int) (w : World) (b : Bool) (hb : decide (ThreeP (nums rs) x y z) = b) (hr : RdM w a rs) (hn : Small rs) :
    Calls Tryd.prog 86 #[.agg #[.slice a rs.length c], .int .i64 x, .int .i64 y, .int .i64 z] w fun e w' => e = .returned (.bool b) ∧ Below w.heap.size w w' := by
  have RA := hid hr; have HB := hid hb; clear hr hb
  have hn1 := hn.1
  have hnl := nums_length rs
  obtain ⟨w0, hw0⟩ : ∃ w0, w0 = (w.alloc (.cells #[.slice a rs.length c] 28)) := ⟨_, rfl⟩
  have B0 := hid (show Below w.heap.size w w0 by rw [hw0]; exact ((Below.refl _ _).alloc (Nat.le_refl _) _))
  have c0 : w0.cell? ⟨w.heap.size, 0, none⟩ = some (.slice a rs.length c) := by rw [hw0]; simp [go_sem]
  replace RA := hid (RA.out.below B0.out (Nat.le_refl _))
  have HW := hid hw0; clear hw0
  by_cases hg : GOk (nums rs)
  rotate_left
  · have h1 := hid (show decide (GOk (nums rs)) = false by simpa using hg)
    have HFIN := hid (show ¬ ThreeP (nums rs) x y z from fun h => hg h.1)
    go_enter Tryd.func86, Tryd.ntmps86
    go_wp2_with fail
    rw [← HW.out]
    go_wp2_with fail
    refine (specGraphOk_b a rs c _ _ h1.out RA.out hn).mono ?_
    rintro e w1 ⟨rfl, hb⟩
    replace RA := hid (RA.out.below hb (Nat.le_refl _))
    replace B0 := hid (bon B0.out hb)
    replace c0 := cellB hb c0 (Nat.le_refl _)
    clear hb
    go_wp2
    go_ret
    exact ⟨ret_bool (dec_f HB.out HFIN.out), B0.out⟩
  have h1 := hid (show decide (GOk (nums rs)) = true by simpa using hg)
  by_cases hx : 0 ≤ x ∧ x ≤ (rs.length : Int) - 1
  rotate_left
  · have Hx := hid (show decide (0 ≤ x ∧ x ≤ (rs.length : Int) - 1) = false by rw [decide_eq_false_iff_not]; exact hx)
    have HFIN := hid (show ¬ ThreeP (nums rs) x y z from fun h => hx (by have := h.2.1; omega))
    go_enter Tryd.func86, Tryd.ntmps86
    go_wp2_with fail
    rw [← HW.out]
    go_wp2_with fail
    refine (specGraphOk_b a rs c _ _ h1.out RA.out hn).mono ?_
    rintro e w2 ⟨rfl, hb⟩
    replace RA := hid (RA.out.below hb (Nat.le_refl _))
    replace B0 := hid (bon B0.out hb)
    replace c0 := cellB hb c0 (Nat.le_refl _)
    clear hb
    go_wp2_with (first | (go_at_call_of 97 x; refine (l1In_b _ _ _ _ _ Hx.out).mono ?_; rintro e w' ⟨rfl, rfl⟩))
    go_ret
    exact ⟨ret_bool (dec_f HB.out HFIN.out), B0.out⟩
  have Hx := hid (show decide (0 ≤ x ∧ x ≤ (rs.length : Int) - 1) = true by rw [decide_eq_true_iff]; exact hx)
  by_cases hy : 0 ≤ y ∧ y ≤ (rs.length : Int) - 1
  rotate_left
  · have Hy := hid (show decide (0 ≤ y ∧ y ≤ (rs.length : Int) - 1) = false by rw [decide_eq_false_iff_not]; exact hy)
    have HFIN := hid (show ¬ ThreeP (nums rs) x y z from fun h => hy (by have := h.2.2.1; omega))
    go_enter Tryd.func86, Tryd.ntmps86
    go_wp2_with fail
    rw [← HW.out]
    go_wp2_with fail
    refine (specGraphOk_b a rs c _ _ h1.out RA.out hn).mono ?_
    rintro e w3 ⟨rfl, hb⟩
    replace RA := hid (RA.out.below hb (Nat.le_refl _))
    replace B0 := hid (bon B0.out hb)
    replace c0 := cellB hb c0 (Nat.le_refl _)
    clear hb
    go_wp2_with (first | (go_at_call_of 97 x; refine (l1In_b _ _ _ _ _ Hx.out).mono ?_; rintro e w' ⟨rfl, rfl⟩) | (go_at_call_of 97 y; refine (l1In_b _ _ _ _ _ Hy.out).mono ?_; rintro e w' ⟨rfl, rfl⟩))
    go_ret
    exact ⟨ret_bool (dec_f HB.out HFIN.out), B0.out⟩
  have Hy := hid (show decide (0 ≤ y ∧ y ≤ (rs.length : Int) - 1) = true by rw [decide_eq_true_iff]; exact hy)
  by_cases hz : 0 ≤ z ∧ z ≤ (rs.length : Int) - 1
  rotate_left
  · have Hz := hid (show decide (0 ≤ z ∧ z ≤ (rs.length : Int) - 1) = false by rw [decide_eq_false_iff_not]; exact hz)
    have HFIN := hid (show ¬ ThreeP (nums rs) x y z from fun h => hz (by have := h.2.2.2.1; omega))
    go_enter Tryd.func86, Tryd.ntmps86
    go_wp2_with fail
    rw [← HW.out]
    go_wp2_with fail
    refine (specGraphOk_b a rs c _ _ h1.out RA.out hn).mono ?_
    rintro e w4 ⟨rfl, hb⟩
    replace RA := hid (RA.out.below hb (Nat.le_refl _))
    replace B0 := hid (bon B0.out hb)
    replace c0 := cellB hb c0 (Nat.le_refl _)
    clear hb
    go_wp2_with (first | (go_at_call_of 97 x; refine (l1In_b _ _ _ _ _ Hx.out).mono ?_; rintro e w' ⟨rfl, rfl⟩) | (go_at_call_of 97 y; refine (l1In_b _ _ _ _ _ Hy.out).mono ?_; rintro e w' ⟨rfl, rfl⟩) | (go_at_call_of 97 z; refine (l1In_b _ _ _ _ _ Hz.out).mono ?_; rintro e w' ⟨rfl, rfl⟩))
    go_ret
    exact ⟨ret_bool (dec_f HB.out HFIN.out), B0.out⟩
  have Hz := hid (show decide (0 ≤ z ∧ z ≤ (rs.length : Int) - 1) = true by rw [decide_eq_true_iff]; exact hz)
  by_cases hxy : x ≠ y
  rotate_left
  · have dhxy : (x != y) = false := by simpa using hxy
    have HFIN := hid (show ¬ ThreeP (nums rs) x y z from fun h => hxy h.2.2.2.2.1)
    go_enter Tryd.func86, Tryd.ntmps86
    go_wp2_with fail
    rw [← HW.out]
    go_wp2_with fail
    refine (specGraphOk_b a rs c _ _ h1.out RA.out hn).mono ?_
    rintro e w5 ⟨rfl, hb⟩
    replace RA := hid (RA.out.below hb (Nat.le_refl _))
    replace B0 := hid (bon B0.out hb)
    replace c0 := cellB hb c0 (Nat.le_refl _)
    clear hb
    go_wp2_with (first | (go_at_call_of 97 x; refine (l1In_b _ _ _ _ _ Hx.out).mono ?_; rintro e w' ⟨rfl, rfl⟩) | (go_at_call_of 97 y; refine (l1In_b _ _ _ _ _ Hy.out).mono ?_; rintro e w' ⟨rfl, rfl⟩) | (go_at_call_of 97 z; refine (l1In_b _ _ _ _ _ Hz.out).mono ?_; rintro e w' ⟨rfl, rfl⟩))
    go_ret
    exact ⟨ret_bool (dec_f HB.out HFIN.out), B0.out⟩
  have dhxy : (x != y) = true := by simpa using hxy
  by_cases hxz : x ≠ z
  rotate_left
  · have dhxz : (x != z) = false := by simpa using hxz
    have HFIN := hid (show ¬ ThreeP (nums rs) x y z from fun h => hxz h.2.2.2.2.2.1)
    go_enter Tryd.func86, Tryd.ntmps86
    go_wp2_with fail
    rw [← HW.out]
    go_wp2_with fail
    refine (specGraphOk_b a rs c _ _ h1.out RA.out hn).mono ?_
    rintro e w6 ⟨rfl, hb⟩
    replace RA := hid (RA.out.below hb (Nat.le_refl _))
    replace B0 := hid (bon B0.out hb)
    replace c0 := cellB hb c0 (Nat.le_refl _)
    clear hb
    go_wp2_with (first | (go_at_call_of 97 x; refine (l1In_b _ _ _ _ _ Hx.out).mono ?_; rintro e w' ⟨rfl, rfl⟩) | (go_at_call_of 97 y; refine (l1In_b _ _ _ _ _ Hy.out).mono ?_; rintro e w' ⟨rfl, rfl⟩) | (go_at_call_of 97 z; refine (l1In_b _ _ _ _ _ Hz.out).mono ?_; rintro e w' ⟨rfl, rfl⟩))
    go_ret
    exact ⟨ret_bool (dec_f HB.out HFIN.out), B0.out⟩
  have dhxz : (x != z) = true := by simpa using hxz
  by_cases hyz : y ≠ z
  rotate_left
  · have dhyz : (y != z) = false := by simpa using hyz
    have HFIN := hid (show ¬ ThreeP (nums rs) x y z from fun h => hyz h.2.2.2.2.2.2)
    go_enter Tryd.func86, Tryd.ntmps86
    go_wp2_with fail
    rw [← HW.out]
    go_wp2_with fail
    refine (specGraphOk_b a rs c _ _ h1.out RA.out hn).mono ?_
    rintro e w7 ⟨rfl, hb⟩
    replace RA := hid (RA.out.below hb (Nat.le_refl _))
    replace B0 := hid (bon B0.out hb)
    replace c0 := cellB hb c0 (Nat.le_refl _)
    clear hb
    go_wp2_with (first | (go_at_call_of 97 x; refine (l1In_b _ _ _ _ _ Hx.out).mono ?_; rintro e w' ⟨rfl, rfl⟩) | (go_at_call_of 97 y; refine (l1In_b _ _ _ _ _ Hy.out).mono ?_; rintro e w' ⟨rfl, rfl⟩) | (go_at_call_of 97 z; refine (l1In_b _ _ _ _ _ Hz.out).mono ?_; rintro e w' ⟨rfl, rfl⟩))
    go_ret
    exact ⟨ret_bool (dec_f HB.out HFIN.out), B0.out⟩
  have dhyz : (y != z) = true := by simpa using hyz
  have HFIN := hid (show ThreeP (nums rs) x y z from ⟨hg, by omega, by omega, by omega, hxy, hxz, hyz⟩)
  go_enter Tryd.func86, Tryd.ntmps86
  go_wp2_with fail
  rw [← HW.out]
  go_wp2_with fail
  refine (specGraphOk_b a rs c _ _ h1.out RA.out hn).mono ?_
  rintro e w8 ⟨rfl, hb⟩
  replace RA := hid (RA.out.below hb (Nat.le_refl _))
  replace B0 := hid (bon B0.out hb)
  replace c0 := cellB hb c0 (Nat.le_refl _)
  clear hb
  go_wp2_with (first | (go_at_call_of 97 x; refine (l1In_b _ _ _ _ _ Hx.out).mono ?_; rintro e w' ⟨rfl, rfl⟩) | (go_at_call_of 97 y; refine (l1In_b _ _ _ _ _ Hy.out).mono ?_; rintro e w' ⟨rfl, rfl⟩) | (go_at_call_of 97 z; refine (l1In_b _ _ _ _ _ Hz.out).mono ?_; rintro e w' ⟨rfl, rfl⟩))
  go_ret
  exact ⟨ret_bool (dec_t HB.out HFIN.out), B0.out⟩
set_option maxRecDepth 100000 in
set_option maxHeartbeats 1000000 in
theorem specAroundPath_any (a : Option Addr) (rs : List Row) (c : Nat) (x y z : Int) (w : World) (r : List Int) (hx : aroL (nums rs) x y z = r) (hr : RdM w a rs) (hn : Small rs) (_h1 : I64 x) (_h2 : I64 y) (_h3 : I64 z) :
    Calls Tryd.prog 46 #[.agg #[.slice a rs.length c], .int .i64 x, .int .i64 y, .int .i64 z] w (RetOwn 2 (r.map (.int .i64)) w) := by
  have RA := hid hr; have HX := hid hx; clear hr hx
  obtain ⟨w0, hw0⟩ : ∃ w0, w0 = (w.alloc (.cells #[.slice a rs.length c] 28)) := ⟨_, rfl⟩
  have B0 := hid (show Below w.heap.size w w0 by rw [hw0]; exact ((Below.refl _ _).alloc (Nat.le_refl _) _))
  have c0 : w0.cell? ⟨w.heap.size, 0, none⟩ = some (.slice a rs.length c) := by rw [hw0]; simp [go_sem]
  replace RA := hid (RA.out.below B0.out (Nat.le_refl _))
  have HW := hid hw0; clear hw0
  by_cases h3 : ThreeP (nums rs) x y z
  · have H3 := hid (show decide (ThreeP (nums rs) x y z) = true by simpa using h3)
    have hg := h3.1
    have h16 : rs.length ≤ 16 := by have := hg.le; rwa [nums_length] at this
    obtain ⟨_, hx0, hy0, hz0, _⟩ := h3
    rw [nums_length] at hx0 hy0 hz0
    obtain ⟨p, rfl⟩ := Int.eq_ofNat_of_zero_le hx0.1
    obtain ⟨m, rfl⟩ := Int.eq_ofNat_of_zero_le hy0.1
    obtain ⟨q, rfl⟩ := Int.eq_ofNat_of_zero_le hz0.1
    have hp : p < rs.length := by omega
    have hm : m < rs.length := by omega
    have hq : q < rs.length := by omega
    have HSET := hid (insideL_set hg (q : Int))
    have HR := hid (show aroS (nums rs) (insideL (nums rs) q) p m = r by rw [← HX.out]; unfold aroL; rw [if_pos (by have := H3.out; simpa using this)])
    clear hx0 hy0 hz0 HX hg
    go_enter Tryd.func46, Tryd.ntmps46
    go_wp2_with fail
    rw [← HW.out]
    go_wp2_with fail
    refine (l14Three_b a rs c _ _ _ _ _ H3.out RA.out hn).mono ?_
    rintro e w1 ⟨rfl, hb⟩
    replace RA := hid (RA.out.below hb (Nat.le_refl _))
    replace B0 := hid (bon B0.out hb)
    replace c0 := cellB hb c0 (Nat.le_refl _)
    clear hb
    go_wp2_with fail
    have D3 : Drawn w1 w1.drew := ⟨1, rfl⟩
    have RA3 := hid (RA.out.drawn D3)
    have B3 := hid (B0.out.trans (D3.below _))
    have f0 := dcell D3 c0
    go_region_held3 (fun w' => w'.cell? ⟨w.heap.size, 0, none⟩ = some (.slice a rs.length c)) (first | exact f0 | exact g0 | exact k0) ((first | (go_at_call 88; refine (l14Inside_any _ _ _ _ _ RA3.out hn hq h16).mono ?_; rintro e w4 ⟨pv, rfl, hown, hb⟩; obtain ⟨pa, pc, rfl, hpr, _⟩ := Own.rd hown; have g0 := cellB hb f0 (Nat.le_refl _); have RA4 := hid (RA3.out.below hb (Nat.le_refl _)); have RP4 := hid hpr; have B4 := hid (bon B3.out hb); clear hown hb hpr) | (go_at_call 87; refine (l14Path_any _ _ _ _ _ _ _ _ _ _ HR.out HSET.out RA4.out hn RP4.out hp hm).mono ?_; rintro e w5 ⟨qv, rfl, hown, hb⟩; have k0 := cellB hb g0 (Nat.le_refl _); have OQ := hid (hown.base B4.out.size); have B5 := hid (bon B4.out hb); clear hown hb)))
    go_wp2
    go_ret
    exact ⟨_, rfl, OQ.out, B5.out⟩
  · have H3 := hid (show decide (ThreeP (nums rs) x y z) = false by simpa using h3)
    have HFIN := hid (show [] = r by rw [← HX.out, aroL_no h3])
    clear h3 HX
    go_enter Tryd.func46, Tryd.ntmps46
    go_wp2_with fail
    rw [← HW.out]
    go_wp2_with fail
    refine (l14Three_b a rs c _ _ _ _ _ H3.out RA.out hn).mono ?_
    rintro e w2 ⟨rfl, hb⟩
    replace RA := hid (RA.out.below hb (Nat.le_refl _))
    replace B0 := hid (bon B0.out hb)
    replace c0 := cellB hb c0 (Nat.le_refl _)
    clear hb
    go_wp2
    go_ret
    rw [← HFIN.out]
    exact ⟨_, rfl, (own_new 2 _ [] (by decide)).base B0.out.size, B0.out.trans ((alloc_below _ _).mono B0.out.size)⟩
end
section
theorem inside_mask {g : List (List Int)} (hg : GOk g) {q : Nat} (hq : q < g.length) : maskL (insideL g (q : Int)) = dif (dif (2 ^ g.length - 1) (maskL (row g (q : Int)))) (2 ^ q) := by
  have hset := insideL_set hg (q : Int)
  apply Nat.eq_of_testBit_eq
  intro i
  rw [testBit_maskL _ i (fun v hv => (hset.2.1 v hv).1), testBit_dif, testBit_dif, Nat.testBit_two_pow_sub_one, testBit_maskL _ i (fun v hv => ((hg.inc q hq).1 v hv).1), Nat.testBit_two_pow]
  have e1 : (i : Int) ∈ insideL g (q : Int) ↔ (i < g.length ∧ (i : Int) ∉ row g (q : Int)) ∧ ¬ q = i := by
    unfold insideL
    rw [List.mem_filter, allL_mem, decide_eq_true_iff]
    constructor
    · intro h
      exact ⟨⟨by omega, h.2.2⟩, fun e => h.2.1 (by omega)⟩
    · intro h
      exact ⟨by omega, fun e => h.2 (by omega), h.1.2⟩
  rw [Bool.eq_iff_iff, decide_eq_true_iff, e1, Bool.and_eq_true, Bool.and_eq_true, decide_eq_true_iff]
  simp only [Bool.not_eq_true', decide_eq_false_iff_not]
def aroX (A : List Nat) (t : Nat) (D : List Int) (u v : Nat) : Option (List Int) := if t.testBit u = true ∧ t.testBit v = true then pathX A t D u else none
set_option maxRecDepth 100000 in
set_option maxHeartbeats 2000000 in
theorem aroundPath_any (a : Option Addr) (A : List Nat) (c n u v q t : Nat) (D : List Int) (x : Option (List Int)) (w : World) (hx : aroX A t D u v = x) (hlen : A.length = n) (ht : t = dif (dif (2 ^ n - 1) (A.getD q 0)) (2 ^ q))
    (hD : t.testBit v = true → (∀ D' : List Int, D'.length = n → (∀ u, u < n → (∃ d : Nat, D'.getD u 0 = d ∧ DistA A t v u d) ∨ (D'.getD u 0 = -1 ∧ ¬ Leads A t v u)) → D' = D) ∧ Desc n (rowsIn A t) D ∧ (∀ x, x < n → D.getD x 0 ≤ 16))
    (hDl : D.length = n) (h0 : ∀ x, x < n → (D.getD x 0 = 0 ↔ x = v))
    (hT : TabOk w) (hr : Rd maskF w a A) (hA : ∀ x ∈ A, x < 65536) (hAn : n ≤ 16) (hu : u < n) (hv : v < n) (hq : q < n) :
    Calls Tryd.prog 91 #[.slice a n c, .int .i64 u, .int .i64 v, .int .i64 q] w (OptPost x w) := by
  have RT := hid hT; have RA := hid hr; have HA := hid hA; have HLN := hid hlen; have HX := hid hx; have HDD := hid hD; have HDL := hid hDl; have H0 := hid h0
  have hp : 2 ^ n ≤ 65536 := Nat.pow_le_pow_right (n := 2) (i := n) (j := 16) (by decide) hAn
  have hpos := Nat.two_pow_pos n
  obtain ⟨ab, ao, rfl, cq⟩ := hr q (by rw [hlen]; exact hq)
  have hAq := hA _ (List.getElem_mem (show q < A.length by rw [hlen]; exact hq))
  have hge : A.getD q 0 = A[q]'(by rw [hlen]; exact hq) := by rw [List.getD_eq_getElem?_getD, List.getElem?_eq_getElem (show q < A.length by rw [hlen]; exact hq)]; rfl
  rw [hge] at ht
  unfold maskF at cq
  generalize A[q]'(by rw [hlen]; exact hq) = X at *
  have hpq : 2 ^ q < 65536 := Nat.pow_lt_pow_right (by decide) (show q < 16 by omega)
  have htn : t < 2 ^ n := by
    rw [ht]
    have h1 := dif_le (dif (2 ^ n - 1) X) (2 ^ q)
    have h2 := dif_le (2 ^ n - 1) X
    omega
  have hd1 := u32_dif (2 ^ n - 1) X (by omega) (by omega)
  have hdl1 := dif_le (2 ^ n - 1) X
  have hd2 := u32_dif (dif (2 ^ n - 1) X) (2 ^ q) (by omega) (by omega)
  rw [← ht] at hd2
  have HTN := hid htn
  have HT0 := hid ht
  have hqi : (q : Int) < (n : Int) := by omega
  clear hT hr hA hlen hx hD hDl h0 ht hge htn
  generalize dif (2 ^ n - 1) X = Y at *
  generalize hF : 2 ^ n - 1 = F at *
  generalize hP : 2 ^ q = P at *
  have B0 := hid (Below.refl w.heap.size w)
  have ht16 : t < 65536 := by have := HTN.out; omega
  by_cases hb1 : t.testBit u = true
  · by_cases hb2 : t.testBit v = true
    · obtain ⟨h3, h4, h5⟩ := HDD.out hb2
      have H3 := hid h3; have H4 := hid h4; have H5 := hid h5
      have HXX := hid (show pathX A t D u = x by rw [← HX.out]; unfold aroX; rw [if_pos ⟨hb1, hb2⟩])
      have HB1 := hid hb1; have HB2 := hid hb2
      clear h3 h4 h5 hb1 hb2 HX HDD
      go_enter Tryd.func91, Tryd.ntmps91
      go_wp2
      have qcq := fun (p : Bel _) => cellB p.h cq (Nat.le_refl _)
      refine wp_quiet_b (by kernel_rfl) (by kernel_rfl) ?_
      repeat (go_big_quiet_step (first | (go_at_call 72; exact qbs (all_p _ _ _ F _ hAn hF)) | (go_at_call 75; exact qbs (one_p q P _ (by omega) hP))))
      refine wpQuiet_nil ?_
      intro _ hw'
      obtain ⟨⟨w1, hb⟩, rfl⟩ := hw'
      clear qcq
      replace RT := hid (RT.out.below hb (Nat.le_refl _))
      replace RA := hid (RA.out.below hb (Nat.le_refl _))
      replace B0 := hid (bon B0.out hb)
      replace cq := cellB hb cq (Nat.le_refl _)
      clear hb
      go_wp2_with (first | (go_at_call 66; refine (has_b _ _ _ _ HB1.out (by omega) (by omega)).mono ?_; rintro e w' ⟨rfl, rfl⟩) | (go_at_call 66; refine (has_b _ _ _ _ HB2.out (by omega) (by omega)).mono ?_; rintro e w' ⟨rfl, rfl⟩))
      refine (pathOf_any _ A c n u v t D x _ HXX.out HLN.out H3.out HDL.out H4.out H0.out H5.out RT.out RA.out HA.out hAn hu hv HTN.out).mono ?_
      rintro e w' (⟨hxn, rfl, hb⟩ | ⟨l, hxl, o, rfl, hown, hb⟩)
      · have B1 := hid (bon B0.out hb)
        go_wp2
        go_ret
        exact .inl ⟨hxn, rfl, B1.out⟩
      · have B1 := hid (bon B0.out hb)
        have OQ := hid (hown.base B0.out.size)
        clear hown hb
        go_wp2
        go_ret
        exact .inr ⟨l, hxl, _, rfl, OQ.out, B1.out⟩
    · have hb3 : t.testBit v = false := by simpa using hb2
      have HXN := hid (show x = none by rw [← HX.out]; unfold aroX; rw [if_neg (fun h => hb2 h.2)])
      have HB1 := hid hb1; have HB2 := hid hb3
      clear hb1 hb2 hb3 HX HDD
      go_enter Tryd.func91, Tryd.ntmps91
      go_wp2
      have qcq := fun (p : Bel _) => cellB p.h cq (Nat.le_refl _)
      refine wp_quiet_b (by kernel_rfl) (by kernel_rfl) ?_
      repeat (go_big_quiet_step (first | (go_at_call 72; exact qbs (all_p _ _ _ F _ hAn hF)) | (go_at_call 75; exact qbs (one_p q P _ (by omega) hP))))
      refine wpQuiet_nil ?_
      intro _ hw'
      obtain ⟨⟨w2, hb⟩, rfl⟩ := hw'
      clear qcq
      replace RT := hid (RT.out.below hb (Nat.le_refl _))
      replace RA := hid (RA.out.below hb (Nat.le_refl _))
      replace B0 := hid (bon B0.out hb)
      replace cq := cellB hb cq (Nat.le_refl _)
      clear hb
      go_wp2_with (first | (go_at_call 66; refine (has_b _ _ _ _ HB1.out (by omega) (by omega)).mono ?_; rintro e w' ⟨rfl, rfl⟩) | (go_at_call 66; refine (has_b _ _ _ _ HB2.out (by omega) (by omega)).mono ?_; rintro e w' ⟨rfl, rfl⟩))
      go_ret
      exact .inl ⟨HXN.out, rfl, B0.out⟩
  · have hb3 : t.testBit u = false := by simpa using hb1
    have HXN := hid (show x = none by rw [← HX.out]; unfold aroX; rw [if_neg (fun h => hb1 h.1)])
    have HB1 := hid hb3
    clear hb1 hb3 HX HDD
    go_enter Tryd.func91, Tryd.ntmps91
    go_wp2
    have qcq := fun (p : Bel _) => cellB p.h cq (Nat.le_refl _)
    refine wp_quiet_b (by kernel_rfl) (by kernel_rfl) ?_
    repeat (go_big_quiet_step (first | (go_at_call 72; exact qbs (all_p _ _ _ F _ hAn hF)) | (go_at_call 75; exact qbs (one_p q P _ (by omega) hP))))
    refine wpQuiet_nil ?_
    intro _ hw'
    obtain ⟨⟨w3, hb⟩, rfl⟩ := hw'
    clear qcq
    replace RT := hid (RT.out.below hb (Nat.le_refl _))
    replace RA := hid (RA.out.below hb (Nat.le_refl _))
    replace B0 := hid (bon B0.out hb)
    replace cq := cellB hb cq (Nat.le_refl _)
    clear hb
    go_wp2_with (first | (go_at_call 66; refine (has_b _ _ _ _ HB1.out (by omega) (by omega)).mono ?_; rintro e w' ⟨rfl, rfl⟩))
    go_ret
    exact .inl ⟨HXN.out, rfl, B0.out⟩
set_option maxHeartbeats 1000000 in
theorem loopResult_none (w : World) : Calls Tryd.prog 90 #[.slice none 0 0] w fun e w' => e = .returned (.slice none 0 0) ∧ w = w' := by
  have hnil := eql_nil none 0 0 w
  go_enter Tryd.func90, Tryd.ntmps90
  go_wp2
  go_ret
  exact ⟨rfl, rfl⟩
set_option maxHeartbeats 1000000 in
theorem loopResult_any (a : Option Addr) (zs : List Int) (c : Nat) (w : World) (hr : Rd (Value.int .i64) w a zs) (hn : zs.length ≤ 1048576) (ha : a ≠ none) : Calls Tryd.prog 90 #[.slice a zs.length c] w (RetOwn 2 (zs.map (.int .i64)) w) := by
  have RA := hid hr; clear hr
  obtain ⟨ad, rfl⟩ : ∃ ad, a = some ad := by
    cases a with
    | none => exact absurd rfl ha
    | some ad => exact ⟨ad, rfl⟩
  have hnil := eql_nil (some ad) zs.length c w
  go_enter Tryd.func90, Tryd.ntmps90
  go_wp2_with fail
  refine (wide_any _ _ _ _ RA.out hn).mono ?_
  rintro e w6 ⟨qv, rfl, hown, hb⟩
  have OQ := hid hown; have B6 := hid hb
  clear hown hb
  go_wp2
  go_ret
  exact ⟨_, rfl, OQ.out, B6.out⟩
end
section
set_option maxRecDepth 100000 in
set_option maxHeartbeats 2000000 in
theorem implAroundPath_any (a : Option Addr) (rs : List Row) (c : Nat) (x y z : Int) (w : World) (r : List Int) (hx : aroL (nums rs) x y z = r) (hr : RdM w a rs) (hn : Small rs) (_h1 : I64 x) (_h2 : I64 y) (_h3 : I64 z) (hT : TabOk w) :
    Calls Tryd.prog 47 #[.agg #[.slice a rs.length c], .int .i64 x, .int .i64 y, .int .i64 z] w (RetOwn 2 (r.map (.int .i64)) w) := by
  have RA := hid hr; have HX := hid hx; have RT := hid hT; clear hr hx hT
  have hn1 := hn.1
  have HNL := hid (nums_length rs)
  obtain ⟨w0, hw0⟩ : ∃ w0, w0 = (w.alloc (.cells #[.slice a rs.length c] 28)) := ⟨_, rfl⟩
  have B0 := hid (show Below w.heap.size w w0 by rw [hw0]; exact ((Below.refl _ _).alloc (Nat.le_refl _) _))
  have c0 : w0.cell? ⟨w.heap.size, 0, none⟩ = some (.slice a rs.length c) := by rw [hw0]; simp [go_sem]
  replace RA := hid (RA.out.below B0.out (Nat.le_refl _))
  replace RT := hid (RT.out.below B0.out (Nat.le_refl _))
  have HW := hid hw0; clear hw0
  by_cases hp : VertP (nums rs) x ∧ VertP (nums rs) y
  · have h1 := hid (show decide (VertP (nums rs) x ∧ VertP (nums rs) y) = true by simpa using hp)
    by_cases hz : VertP (nums rs) z
    · have h2 := hid (show decide (VertP (nums rs) z) = true by simpa using hz)
      have hx0 := hp.1.2; have hy0 := hp.2.2; have hz0 := hz.2
      rw [nums_length] at hx0 hy0 hz0
      have HG := hid hz.1
      obtain ⟨p, rfl⟩ := Int.eq_ofNat_of_zero_le hx0.1
      obtain ⟨m, rfl⟩ := Int.eq_ofNat_of_zero_le hy0.1
      obtain ⟨q, rfl⟩ := Int.eq_ofNat_of_zero_le hz0.1
      have hpl : p < rs.length := by omega
      have hml : m < rs.length := by omega
      have hql : q < rs.length := by omega
      by_cases hd : p ≠ m ∧ p ≠ q ∧ m ≠ q
      · have d1 : ((p : Int) == (m : Int)) = false := by simp; omega
        have d2 : ((p : Int) == (q : Int)) = false := by simp; omega
        have d3 : ((m : Int) == (q : Int)) = false := by simp; omega
        have h16 : rs.length ≤ 16 := by have := HG.out.le; rwa [nums_length] at this
        have hset := insideL_set hz.1 (q : Int)
        have hmask := inside_mask hz.1 (q := q) (by rw [nums_length]; exact hql)
        obtain ⟨t, ht⟩ : ∃ t, maskL (insideL (nums rs) (q : Int)) = t := ⟨_, rfl⟩
        have hsz16 : (insideL (nums rs) (q : Int)).length ≤ 16 := hset.len
        have hbit : ∀ i : Nat, t.testBit i = true ↔ (i : Int) ∈ insideL (nums rs) (q : Int) := fun i => by
          rw [← ht, testBit_maskL _ i (fun v hv => (hset.2.1 v hv).1)]; simp
        have HLR := hid (show ((nums rs).map maskL).length = rs.length by rw [List.length_map, nums_length])
        have HTT := hid (show t = dif (dif (2 ^ rs.length - 1) (((nums rs).map maskL).getD q 0)) (2 ^ q) by
          rw [← ht, hmask, nums_length]
          congr 2
          rw [List.getD_eq_getElem?_getD, List.getElem?_map, List.getElem?_eq_getElem (show q < (nums rs).length by rw [nums_length]; exact hql), row_nat _ _ (by rw [nums_length]; exact hql)]
          rfl)
        have HDD := hid (show t.testBit m = true → (∀ D' : List Int, D'.length = rs.length → (∀ u, u < rs.length → (∃ d : Nat, D'.getD u 0 = d ∧ DistA ((nums rs).map maskL) t m u d) ∨ (D'.getD u 0 = -1 ∧ ¬ Leads ((nums rs).map maskL) t m u)) → D' = farL (nums rs) (insideL (nums rs) (q : Int)) (m : Int)) ∧ Desc rs.length (rowsIn ((nums rs).map maskL) t) (farL (nums rs) (insideL (nums rs) (q : Int)) (m : Int)) ∧ (∀ x, x < rs.length → (farL (nums rs) (insideL (nums rs) (q : Int)) (m : Int)).getD x 0 ≤ 16) by
          intro hb
          have hms := (hbit m).1 hb
          have hdesc := desc_in hset hms
          refine ⟨?_, ?_, ?_⟩
          · intro D' hl h
            refine dist_far hset hms (by rw [hl, nums_length]) ?_
            rw [ht, nums_length]
            exact h
          · have h := hdesc
            rw [ht] at h
            generalize farL (nums rs) (insideL (nums rs) (q : Int)) (m : Int) = Z at *
            rwa [nums_length] at h
          · intro x hx
            by_cases h : (farL (nums rs) (insideL (nums rs) (q : Int)) (m : Int)).getD x 0 < 0
            · omega
            · obtain ⟨d, hd⟩ := Int.eq_ofNat_of_zero_le (show 0 ≤ (farL (nums rs) (insideL (nums rs) (q : Int)) (m : Int)).getD x 0 by omega)
              have := down_le hdesc (d := d) (u := (x : Int)) (by omega) (by rw [nums_length]; omega) (by rw [Int.toNat_natCast]; exact hd)
              rw [nums_length] at this
              rw [hd]; omega)
        have HDL := hid (show (farL (nums rs) (insideL (nums rs) (q : Int)) (m : Int)).length = rs.length by rw [farL_len, nums_length])
        have H0 := hid (show ∀ x, x < rs.length → ((farL (nums rs) (insideL (nums rs) (q : Int)) (m : Int)).getD x 0 = 0 ↔ x = m) by
          intro x hx
          have e := farL_get (g := nums rs) (s := insideL (nums rs) (q : Int)) (v := (m : Int)) (x := (x : Int)) (by omega) (by rw [nums_length]; omega)
          rw [Int.toNat_natCast] at e
          rw [e, far_zero]; omega)
        obtain ⟨X, hX⟩ : ∃ X, aroX ((nums rs).map maskL) t (farL (nums rs) (insideL (nums rs) (q : Int)) (m : Int)) p m = X := ⟨_, rfl⟩
        have HXX := hid hX
        have hget : (farL (nums rs) (insideL (nums rs) (q : Int)) (m : Int)).getD p 0 = far (nums rs) (insideL (nums rs) (q : Int)) (m : Int) (p : Int) := farL_get (x := (p : Int)) (by omega) (by rw [nums_length]; omega)
        have h3 : ThreeP (nums rs) (p : Int) (m : Int) (q : Int) := ⟨hz.1, hp.1.2, hp.2.2, hz.2, by omega, by omega, by omega⟩
        have HR := hid (show aroS (nums rs) (insideL (nums rs) (q : Int)) (p : Int) (m : Int) = r by rw [← HX.out]; unfold aroL; rw [if_pos h3])
        have HXE := hid (show (∀ l, X = some l → l = r ∧ l ≠ []) ∧ (X = none → [] = r) by
          rw [← hX, ← HR.out]
          unfold aroX aroS pathX
          rw [hget, ht]
          by_cases hb : t.testBit p = true ∧ t.testBit m = true
          · rw [if_pos hb]
            by_cases h0 : far (nums rs) (insideL (nums rs) (q : Int)) (m : Int) (p : Int) < 0
            · rw [if_pos h0, if_neg (fun h => by omega)]
              exact ⟨fun l h => (by cases h), fun _ => rfl⟩
            · rw [if_neg h0, if_pos ⟨(hbit p).1 hb.1, (hbit m).1 hb.2, by omega⟩]
              refine ⟨fun l h => ?_, fun h => by cases h⟩
              injection h with h
              subst h
              exact ⟨rfl, fun e => by have := congrArg List.length e; rw [downL_len] at this; simp at this⟩
          · rw [if_neg hb, if_neg (fun h => hb ⟨(hbit p).2 h.1, (hbit m).2 h.2.1⟩)]
            exact ⟨fun l h => (by cases h), fun _ => rfl⟩)
        have HRL := hid (show r.length ≤ 16 by rw [← HR.out]; exact aroS_len hset _ _)
        have HA16 := hid (in16_of hz.1)
        clear hset hmask ht hsz16 hbit hX hget h3 HR HX hp hz hd hx0 hy0 hz0
        generalize farL (nums rs) (insideL (nums rs) (q : Int)) (m : Int) = D at *
        generalize hA : (nums rs).map maskL = A at *
        go_enter Tryd.func47, Tryd.ntmps47
        go_wp2_with fail
        rw [← HW.out]
        go_wp2_with fail
        refine (isPair_b a rs c _ _ _ _ h1.out RA.out hn).mono ?_
        rintro e w1 ⟨rfl, hb⟩
        replace RA := hid (RA.out.below hb (Nat.le_refl _))
        replace RT := hid (RT.out.below hb (Nat.le_refl _))
        replace B0 := hid (bon B0.out hb)
        replace c0 := cellB hb c0 (Nat.le_refl _)
        clear hb
        go_wp2_with fail
        refine (isVertex_b a rs c _ _ _ h2.out RA.out hn).mono ?_
        rintro e w2 ⟨rfl, hb⟩
        replace RA := hid (RA.out.below hb (Nat.le_refl _))
        replace RT := hid (RT.out.below hb (Nat.le_refl _))
        replace B0 := hid (bon B0.out hb)
        replace c0 := cellB hb c0 (Nat.le_refl _)
        clear hb
        go_wp2_with fail
        refine (netsOf_any a rs c _ HG.out RA.out hn).mono ?_
        rintro e w3 ⟨v, rfl, hown, hb⟩
        replace RA := hid (RA.out.below hb (Nat.le_refl _))
        replace RT := hid (RT.out.below hb (Nat.le_refl _))
        replace B0 := hid (bon B0.out hb)
        replace c0 := cellB hb c0 (Nat.le_refl _)
        clear hb
        obtain ⟨na, nc, rfl, hsr, _, _, _, _⟩ := Own.rd (f := netF) hown
        have RN := hid hsr.masks; clear hown hsr
        rw [nums_length]
        rw [hA] at RN
        go_wp2_with fail
        refine (aroundPath_any na A nc rs.length p m q t D X _ HXX.out HLR.out HTT.out HDD.out HDL.out H0.out RT.out RN.out HA16.out h16 hpl hml hql).mono ?_
        rintro e w' (⟨hxn, rfl, hb⟩ | ⟨l, hxl, o, rfl, hown, hb⟩)
        · have B1 := hid (bon B0.out hb); clear hb
          have HN := hid (HXE.out.2 hxn)
          go_wp2_with (first | (go_at_call 90; refine (loopResult_none _).mono ?_; rintro e w' ⟨rfl, rfl⟩))
          go_ret
          rw [← HN.out]
          exact ⟨_, rfl, Own.nil _ _ _, B1.out⟩
        · have B1 := hid (bon B0.out hb); clear hb
          obtain ⟨hl1, hl2⟩ := HXE.out.1 l hxl
          subst hl1
          obtain ⟨la, lc, rfl, hrd, h3, _, h5, _⟩ := Own.rd hown
          have RL := hid hrd; clear hrd hown
          have hla : la ≠ none := by
            rintro rfl
            have h6 := h5 rfl
            exact hl2 (List.eq_nil_of_length_eq_zero (by omega))
          have hll : l.length ≤ 1048576 := by have := HRL.out; omega
          clear h3 h5 HXX HXE hxl
          go_wp2_with fail
          refine (loopResult_any _ _ _ _ RL.out hll hla).mono ?_
          rintro e w6 ⟨qv, rfl, hown, hb⟩
          have OQ := hid (hown.base B1.out.size)
          have B6 := hid (bon B1.out hb)
          clear hown hb
          go_wp2
          go_ret
          exact ⟨_, rfl, OQ.out, B6.out⟩
      · have HFIN := hid (show [] = r by rw [← HX.out, aroL_no]; rintro ⟨_, _, _, _, h4, h5, h6⟩; exact hd ⟨fun e => h4 (by rw [e]), fun e => h5 (by rw [e]), fun e => h6 (by rw [e])⟩)
        obtain ⟨b1, hb1⟩ : ∃ b, ((p : Int) == (m : Int)) = b := ⟨_, rfl⟩
        obtain ⟨b2, hb2⟩ : ∃ b, ((p : Int) == (q : Int)) = b := ⟨_, rfl⟩
        obtain ⟨b3, hb3⟩ : ∃ b, ((m : Int) == (q : Int)) = b := ⟨_, rfl⟩
        have hbb : b1 = true ∨ b2 = true ∨ b3 = true := by
          rw [← hb1, ← hb2, ← hb3]
          simp only [beq_iff_eq]
          omega
        clear hp hz hx0 hy0 hz0 HX hd
        cases b1 <;> cases b2 <;> cases b3
        · simp at hbb
        all_goals (
          clear hbb
          go_enter Tryd.func47, Tryd.ntmps47
          go_wp2_with fail
          rw [← HW.out]
          refine (isPair_b a rs c _ _ _ _ h1.out RA.out hn).mono ?_
          rintro e w1 ⟨rfl, hb⟩
          have RA1 := hid (RA.out.below hb (Nat.le_refl _)); have B1 := hid (bon B0.out hb); have c1 := cellB hb c0 (Nat.le_refl _)
          clear hb
          go_wp2_with fail
          refine (isVertex_b a rs c _ _ _ h2.out RA1.out hn).mono ?_
          rintro e w2 ⟨rfl, hb⟩
          have B2 := hid (bon B1.out hb)
          clear hb
          go_wp2
          go_ret
          rw [← HFIN.out]
          exact ⟨_, rfl, Own.nil _ _ _, B2.out⟩)
    · have h2 := hid (show decide (VertP (nums rs) z) = false by simpa using hz)
      have HFIN := hid (show [] = r by rw [← HX.out, aroL_no]; rintro ⟨h3, _, _, h4, _⟩; exact hz ⟨h3, h4⟩)
      clear hz HX hp
      go_enter Tryd.func47, Tryd.ntmps47
      go_wp2_with fail
      rw [← HW.out]
      go_wp2_with fail
      refine (isPair_b a rs c _ _ _ _ h1.out RA.out hn).mono ?_
      rintro e w4 ⟨rfl, hb⟩
      replace RA := hid (RA.out.below hb (Nat.le_refl _))
      replace RT := hid (RT.out.below hb (Nat.le_refl _))
      replace B0 := hid (bon B0.out hb)
      replace c0 := cellB hb c0 (Nat.le_refl _)
      clear hb
      go_wp2_with fail
      refine (isVertex_b a rs c _ _ _ h2.out RA.out hn).mono ?_
      rintro e w5 ⟨rfl, hb⟩
      replace RA := hid (RA.out.below hb (Nat.le_refl _))
      replace RT := hid (RT.out.below hb (Nat.le_refl _))
      replace B0 := hid (bon B0.out hb)
      replace c0 := cellB hb c0 (Nat.le_refl _)
      clear hb
      go_wp2
      go_ret
      rw [← HFIN.out]
      exact ⟨_, rfl, Own.nil _ _ _, B0.out⟩
  · have h1 := hid (show decide (VertP (nums rs) x ∧ VertP (nums rs) y) = false by simpa using hp)
    have HFIN := hid (show [] = r by rw [← HX.out, aroL_no]; rintro ⟨h3, h4, h5, _⟩; exact hp ⟨⟨h3, h4⟩, ⟨h3, h5⟩⟩)
    clear hp HX
    go_enter Tryd.func47, Tryd.ntmps47
    go_wp2_with fail
    rw [← HW.out]
    go_wp2_with fail
    refine (isPair_b a rs c _ _ _ _ h1.out RA.out hn).mono ?_
    rintro e w6 ⟨rfl, hb⟩
    replace RA := hid (RA.out.below hb (Nat.le_refl _))
    replace RT := hid (RT.out.below hb (Nat.le_refl _))
    replace B0 := hid (bon B0.out hb)
    replace c0 := cellB hb c0 (Nat.le_refl _)
    clear hb
    go_wp2
    go_ret
    rw [← HFIN.out]
    exact ⟨_, rfl, Own.nil _ _ _, B0.out⟩
end
end Go.Proofs.YtlnhfafnhclolaaDoor
