/- PathOf: plain, and both walks. -/
import Derived.Test.YtlnhfafnhclolaaDoorPathJ
import Derived.Test.YtlnhfafnhclolaaDoorDistI
namespace Go.Proofs.YtlnhfafnhclolaaDoor
open Go.RowKit
theorem down_ok {n : Nat} {R : Int → List Int} {D : List Int} (h : Desc n R D) : ∀ (d : Nat) (u : Int), 0 ≤ u → u < n → D.getD u.toNat 0 = (d : Int) → (downL R D d u).Nodup ∧ ∀ x ∈ downL R D d u, (0 ≤ x ∧ x < n) ∧ D.getD x.toNat 0 ≤ (d : Int) := by
  intro d
  induction d with
  | zero =>
    intro u h0 h1 hd
    refine ⟨by simp [downL], ?_⟩
    intro x hx
    simp [downL] at hx
    subst hx
    exact ⟨⟨h0, h1⟩, by rw [hd]; exact Int.le_refl _⟩
  | succ d ih =>
    intro u h0 h1 hd
    obtain ⟨h2, h3⟩ := hop_spec (h.down u h0 h1 d (by rw [hd]; simp))
    have h4 := h.rng u h0 h1 _ h2
    obtain ⟨h5, h6⟩ := ih _ h4.1 h4.2 h3
    rw [downL_succ]
    refine ⟨List.nodup_cons.2 ⟨fun hm => ?_, h5⟩, ?_⟩
    · have := (h6 u hm).2
      rw [hd] at this; omega
    · intro x hx
      rcases List.mem_cons.1 hx with rfl | hx
      · exact ⟨⟨h0, h1⟩, by rw [hd]; exact Int.le_refl _⟩
      · have := h6 x hx
        exact ⟨this.1, by omega⟩
theorem down_le {n : Nat} {R : Int → List Int} {D : List Int} (h : Desc n R D) {d : Nat} {u : Int} (h0 : 0 ≤ u) (h1 : u < n) (hd : D.getD u.toNat 0 = (d : Int)) : d + 1 ≤ n := by
  obtain ⟨h2, h3⟩ := down_ok h d u h0 h1 hd
  have := nodup_le _ n h2 (fun x hx => (h3 x hx).1)
  rw [downL_len] at this; exact this
theorem downL_congr {n : Nat} {R R' : Int → List Int} {D : List Int} (h : Desc n R D) (he : ∀ u : Int, 0 ≤ u → u < n → R' u = R u) : ∀ (d : Nat) (u : Int), 0 ≤ u → u < n → D.getD u.toNat 0 = (d : Int) → downL R' D d u = downL R D d u := by
  intro d
  induction d with
  | zero => intro u _ _ _; rfl
  | succ d ih =>
    intro u h0 h1 hd
    obtain ⟨h2, h3⟩ := hop_spec (h.down u h0 h1 d (by rw [hd]; simp))
    have h4 := h.rng u h0 h1 _ h2
    rw [downL_succ, downL_succ, he u h0 h1, ih _ h4.1 h4.2 h3]
theorem farL_get {g : List (List Int)} {s : List Int} {v : Int} {x : Int} (h0 : 0 ≤ x) (h1 : x < g.length) : (farL g s v).getD x.toNat 0 = far g s v x := by
  obtain ⟨m, rfl⟩ := Int.eq_ofNat_of_zero_le h0
  rw [Int.toNat_natCast, getD_eq _ m (by rw [farL_len]; omega)]
  simp [farL]
theorem far_zero {g : List (List Int)} {s : List Int} {v x : Int} : far g s v x = 0 ↔ x = v := by
  constructor
  · intro h
    obtain ⟨d, h1, h2, _⟩ := far_spec (far_nonneg.1 (by omega : 0 ≤ far g s v x))
    obtain rfl : d = 0 := by omega
    exact h2
  · rintro rfl
    exact far_eq (d := 0) (show Ball g s x 0 x from rfl) (fun e _ => Nat.zero_le e)
/-- Of a set of a graph: the distances go down by one at a neighbour in the set. -/
theorem desc_in {g : List (List Int)} {s : List Int} (hs : SetP g s) {v : Int} (hv : v ∈ s) : Desc g.length (rowsIn (g.map maskL) (maskL s)) (farL g s v) := by
  have hrow : ∀ u : Int, 0 ≤ u → u < g.length → rowsIn (g.map maskL) (maskL s) u = leftL (row g u) (maskL s) := by
    intro u h0 h1
    obtain ⟨m, rfl⟩ := Int.eq_ofNat_of_zero_le h0
    have hi := hs.1.inc m (by omega)
    have h16 := hs.1.le
    unfold rowsIn
    rw [Int.toNat_natCast, List.getD_eq_getElem?_getD, List.getElem?_map, List.getElem?_eq_getElem (show m < g.length by omega)]
    show mems (maskL g[m] &&& maskL s) = _
    rw [← row_nat g m (by omega), ← leftL_mask hi, mems_maskL (leftL_inc hi _) (by omega)]
  refine ⟨?_, ?_⟩
  · intro u h0 h1 x hx
    rw [hrow u h0 h1] at hx
    exact row_mem hs.1 h0 h1 (leftL_mem.1 hx).1
  · intro u h0 h1 d hd
    rw [farL_get h0 h1] at hd
    have hr : ∃ d, Ball g s v d u := far_nonneg.1 (by omega)
    obtain ⟨e, h2, h3, h4⟩ := far_spec hr
    obtain rfl : e = d + 1 := by omega
    rcases h3 with h3 | ⟨h5, x, h6, h7⟩
    · exact absurd h3 (h4 d (by omega))
    · have hxs := ball_in hv h6
      have hx := hs.2.1 x hxs
      obtain ⟨m, rfl⟩ := Int.eq_ofNat_of_zero_le hx.1
      refine ⟨(m : Int), ?_, ?_⟩
      · rw [hrow u h0 h1, leftL_mem]
        refine ⟨hs.1.sym m (by omega) u h7, ?_⟩
        rw [Int.toNat_natCast, testBit_maskL s m (fun v hv => (hs.2.1 v hv).1)]
        simpa using hxs
      · rw [farL_get hx.1 hx.2]
        apply far_eq h6
        intro e he
        apply Classical.byContradiction
        intro hn
        exact h4 (e + 1) (by omega) (.inr ⟨h5, (m : Int), he, h7⟩)
theorem rows_all {g : List (List Int)} (hg : GOk g) {x : Int} (h0 : 0 ≤ x) (h1 : x < g.length) : rowsIn (g.map maskL) (2 ^ g.length - 1) x = row g x := by
  obtain ⟨m, rfl⟩ := Int.eq_ofNat_of_zero_le h0
  have hi := hg.inc m (by omega)
  have h16 := hg.le
  unfold rowsIn
  rw [Int.toNat_natCast, List.getD_eq_getElem?_getD, List.getElem?_map, List.getElem?_eq_getElem (show m < g.length by omega)]
  show mems (maskL g[m] &&& _) = _
  rw [← row_nat g m (by omega), ← leftL_mask hi, mems_maskL (leftL_inc hi _) (by omega)]
  unfold leftL
  rw [List.filter_eq_self]
  intro y hy
  have := hi.1 y hy
  rw [Nat.testBit_two_pow_sub_one]
  simp; omega
noncomputable def pathL (g : List (List Int)) (u v : Int) : List Int :=
  if VertP g u ∧ VertP g v then if 0 ≤ far g (allL g.length) v u then downL (row g) (farL g (allL g.length) v) (far g (allL g.length) v u).toNat u else [] else []
theorem pathL_len (g : List (List Int)) (u v : Int) : (pathL g u v).length ≤ 1048576 := by
  unfold pathL
  split
  · rename_i h
    split
    · rename_i h0
      rw [downL_len]
      have := down_le (desc_far (setP_all h.1.1) ((allL_mem _ _).2 h.2.2)) (d := (far g (allL g.length) v u).toNat) h.1.2.1 h.1.2.2 (by rw [farL_get h.1.2.1 h.1.2.2, Int.toNat_of_nonneg h0])
      have := h.1.1.le
      omega
    · simp
  · simp
set_option maxHeartbeats 1000000 in
theorem isPair_b (a : Option Addr) (rs : List Row) (c : Nat) (u v : Int) (w : World) (b : Bool) (hb : decide (VertP (nums rs) u ∧ VertP (nums rs) v) = b) (hr : RdM w a rs) (hn : Small rs) :
    Calls Tryd.prog 89 #[.agg #[.slice a rs.length c], .int .i64 u, .int .i64 v] w fun e w' => e = .returned (.bool b) ∧ Below w.heap.size w w' := by
  have RA := hid hr; have HB := hid hb; clear hr hb
  obtain ⟨w0, hw0⟩ : ∃ w0, w0 = (w.alloc (.cells #[.slice a rs.length c] 28)) := ⟨_, rfl⟩
  have B0 := hid (show Below w.heap.size w w0 by rw [hw0]; exact ((Below.refl _ _).alloc (Nat.le_refl _) _))
  have c0 : w0.cell? ⟨w.heap.size, 0, none⟩ = some (.slice a rs.length c) := by rw [hw0]; simp [go_sem]
  replace RA := hid (RA.out.below B0.out (Nat.le_refl _))
  have HW := hid hw0; clear hw0
  by_cases hu : VertP (nums rs) u
  · have h1 := hid (show decide (VertP (nums rs) u) = true by simpa using hu)
    have h2 := hid (show decide (VertP (nums rs) v) = b by rw [← HB.out]; simp [hu])
    clear hu
    go_enter Tryd.func89, Tryd.ntmps89
    go_wp2_with fail
    rw [← HW.out]
    go_wp2_with fail
    refine (isVertex_b a rs c _ _ _ h1.out RA.out hn).mono ?_
    rintro e w1 ⟨rfl, hb⟩
    replace RA := hid (RA.out.below hb (Nat.le_refl _))
    replace B0 := hid (bon B0.out hb)
    replace c0 := cellB hb c0 (Nat.le_refl _)
    clear hb
    go_wp2_with fail
    refine (isVertex_b a rs c _ _ _ h2.out RA.out hn).mono ?_
    rintro e w2 ⟨rfl, hb⟩
    replace RA := hid (RA.out.below hb (Nat.le_refl _))
    replace B0 := hid (bon B0.out hb)
    replace c0 := cellB hb c0 (Nat.le_refl _)
    clear hb
    go_wp2
    go_ret
    exact ⟨rfl, B0.out⟩
  · have h1 := hid (show decide (VertP (nums rs) u) = false by simpa using hu)
    have h2 := hid (show false = b by rw [← HB.out]; simp [hu])
    clear hu
    go_enter Tryd.func89, Tryd.ntmps89
    go_wp2_with fail
    rw [← HW.out]
    go_wp2_with fail
    refine (isVertex_b a rs c _ _ _ h1.out RA.out hn).mono ?_
    rintro e w3 ⟨rfl, hb⟩
    replace RA := hid (RA.out.below hb (Nat.le_refl _))
    replace B0 := hid (bon B0.out hb)
    replace c0 := cellB hb c0 (Nat.le_refl _)
    clear hb
    go_wp2
    go_ret
    exact ⟨ret_bool h2.out, B0.out⟩
end Go.Proofs.YtlnhfafnhclolaaDoor
