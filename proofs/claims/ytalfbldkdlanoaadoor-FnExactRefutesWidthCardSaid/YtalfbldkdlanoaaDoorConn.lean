/- ConnectedIn: both. -/
import Derived.Test.YtalfbldkdlanoaaDoorFar
import Derived.Test.YtalfbldkdlanoaaDoorReach
import Derived.Deep.RegionHeld3
namespace Go.Proofs.YtalfbldkdlanoaaDoor
open Go.RowKit
set_option maxRecDepth 100000 in
set_option maxHeartbeats 4000000 in
theorem l3Connected_b (a : Option Addr) (rs : List Row) (c : Nat) (a' : Option Addr) (zs : List Int) (c' : Nat) (w : World) (b : Bool) (hb : decide (ConnP (nums rs) zs) = b) (hs : SetP (nums rs) zs) (hr : RdM w a rs) (hn : Small rs) (hz : Rd (Value.int .i64) w a' zs) (hm : zs.length ≤ 1048576) :
    Calls Tryd.prog 128 #[.agg #[.slice a rs.length c], .slice a' zs.length c'] w fun e w' => e = .returned (.bool b) ∧ Below w.heap.size w w' := by
  have RA := hid hr; have RZ := hid hz; have HB := hid hb; have HS := hid hs; clear hr hz hb hs
  obtain ⟨w0, hw0⟩ : ∃ w0, w0 = (w.alloc (.cells #[.slice a rs.length c] 29)) := ⟨_, rfl⟩
  have B0 := hid (show Below w.heap.size w w0 by rw [hw0]; exact ((Below.refl _ _).alloc (Nat.le_refl _) _))
  have c0 : w0.cell? ⟨w.heap.size, 0, none⟩ = some (.slice a rs.length c) := by rw [hw0]; simp [go_sem]
  replace RA := hid (RA.out.below B0.out (Nat.le_refl _))
  replace RZ := hid (RZ.out.below B0.out (Nat.le_refl _))
  have HW := hid hw0; clear hw0
  by_cases h0 : zs = []
  · have HFIN := hid (show ¬ ConnP (nums rs) zs from fun h => h.1 h0)
    have e0 : decide (0 < zs.length) = false := by rw [h0]; rfl
    have e0i : decide ((0 : Int) < (zs.length : Int)) = false := by rw [h0]; rfl
    have hzl : ¬ (0 : Int) < (zs.length : Int) := by rw [h0]; simp
    clear h0
    go_enter Tryd.func128, Tryd.ntmps128
    go_wp2
    rw [← HW.out]
    have qc0 := fun (p : Bel _) => cellB p.h c0 (Nat.le_refl _)
    refine wp_quiet_b (by kernel_rfl) (by kernel_rfl) ?_
    repeat (go_big_quiet_step (fail))
    refine wpQuiet_nil ?_
    intro _ hw'
    obtain ⟨⟨w1, hb⟩, rfl⟩ := hw'
    clear qc0
    replace RA := hid (RA.out.below hb (Nat.le_refl _))
    replace RZ := hid (RZ.out.below hb (Nat.le_refl _))
    replace B0 := hid (bon B0.out hb)
    replace c0 := cellB hb c0 (Nat.le_refl _)
    clear hb
    go_wp2
    go_ret
    exact ⟨ret_bool (dec_f HB.out HFIN.out), B0.out⟩
  · have hpos : 0 < zs.length := List.length_pos_iff.2 h0
    have HL := hid (conn_len HS.out h0)
    have hv0 := HS.out.2.1 _ (List.getElem_mem hpos)
    have HG0 := hid (getD_eq zs 0 hpos)
    have e0 : decide (0 < zs.length) = true := by simpa using hpos
    have e0i : decide ((0 : Int) < (zs.length : Int)) = true := by rw [decide_eq_true_iff]; omega
    have hzl : (0 : Int) < (zs.length : Int) := by omega
    obtain ⟨zb, zo, rfl, cz⟩ := RZ.out 0 hpos
    rw [HG0.out] at HL
    generalize zs[0] = v at *
    obtain ⟨m, rfl⟩ := Int.eq_ofNat_of_zero_le hv0.1
    have hmr : m < rs.length := by rw [nums_length] at hv0; omega
    rw [Nat.add_zero] at cz
    have HFIN := hid (show (((partL (nums rs) zs (m : Int)).length : Int) == (zs.length : Int)) = b by
      rw [← HB.out, Bool.eq_iff_iff, beq_iff_eq, decide_eq_true_iff, ← HL.out]; omega)
    clear h0 hv0
    go_enter Tryd.func128, Tryd.ntmps128
    go_wp2_with fail
    rw [← HW.out]
    have D3 : Drawn w0 w0.drew := ⟨1, rfl⟩
    have RA3 := hid (RA.out.drawn D3)
    have RZ3 := hid (RZ.out.drawn D3)
    have B3 := hid (B0.out.trans (D3.below _))
    have f0 := dcell D3 c0
    have f1 := dcell D3 cz
    go_region_held3 (fun w' => w'.cell? ⟨w.heap.size, 0, none⟩ = some (.slice a rs.length c) ∧ w'.cell? ⟨zb, zo, none⟩ = some (.int .i64 m)) (first | exact ⟨f0, f1⟩ | exact ⟨g0, g1⟩) ((first | (go_at_call 161; refine (l3Part_any _ _ _ _ _ _ _ _ HS.out.1 RA3.out hn RZ3.out hm hmr).mono ?_; rintro e w4 ⟨pv, rfl, hown, hb⟩; obtain ⟨pa, pc, rfl, _⟩ := Own.rd hown; have g0 := cellB hb f0 (Nat.le_refl _); have g1 := cellB hb f1 (Nat.le_refl _); have B4 := hid (bon B3.out hb); clear hown hb)))
    generalize (partL (nums rs) zs (m : Int)).length = P at *
    go_wp2
    go_ret
    exact ⟨ret_bool HFIN.out, B4.out⟩
def ConnIn (g : List (List Int)) (s : List Int) : Prop := SetP g s ∧ ConnP g s
noncomputable instance (g : List (List Int)) (s : List Int) : Decidable (ConnIn g s) := Classical.propDecidable _
set_option maxHeartbeats 4000000 in
theorem specConnectedIn_b (a : Option Addr) (rs : List Row) (c : Nat) (a' : Option Addr) (zs : List Int) (c' : Nat) (w : World) (b : Bool) (hb : decide (ConnIn (nums rs) zs) = b) (hr : RdM w a rs) (hn : Small rs) (hz : Rd (Value.int .i64) w a' zs) (hm : zs.length ≤ 1048576) :
    Calls Tryd.prog 77 #[.agg #[.slice a rs.length c], .slice a' zs.length c'] w fun e w' => e = .returned (.bool b) ∧ Below w.heap.size w w' := by
  have RA := hid hr; have RZ := hid hz; have HB := hid hb; clear hr hz hb
  obtain ⟨w0, hw0⟩ : ∃ w0, w0 = (w.alloc (.cells #[.slice a rs.length c] 29)) := ⟨_, rfl⟩
  have B0 := hid (show Below w.heap.size w w0 by rw [hw0]; exact ((Below.refl _ _).alloc (Nat.le_refl _) _))
  have c0 : w0.cell? ⟨w.heap.size, 0, none⟩ = some (.slice a rs.length c) := by rw [hw0]; simp [go_sem]
  replace RA := hid (RA.out.below B0.out (Nat.le_refl _))
  replace RZ := hid (RZ.out.below B0.out (Nat.le_refl _))
  have HW := hid hw0; clear hw0
  by_cases hs : SetP (nums rs) zs
  · have h1 := hid (show decide (SetP (nums rs) zs) = true by simpa using hs)
    have h2 := hid (show decide (ConnP (nums rs) zs) = b by rw [← HB.out]; unfold ConnIn; simp [hs])
    have HS := hid hs
    clear hs
    go_enter Tryd.func77, Tryd.ntmps77
    go_wp2_with fail
    rw [← HW.out]
    go_wp2_with fail
    refine (specSetOk_b a rs c a' zs c' _ _ h1.out RA.out hn RZ.out hm).mono ?_
    rintro e w1 ⟨rfl, hb⟩
    replace RA := hid (RA.out.below hb (Nat.le_refl _))
    replace RZ := hid (RZ.out.below hb (Nat.le_refl _))
    replace B0 := hid (bon B0.out hb)
    replace c0 := cellB hb c0 (Nat.le_refl _)
    clear hb
    go_wp2_with fail
    refine (l3Connected_b a rs c a' zs c' _ _ h2.out HS.out RA.out hn RZ.out hm).mono ?_
    rintro e w2 ⟨rfl, hb⟩
    replace RA := hid (RA.out.below hb (Nat.le_refl _))
    replace RZ := hid (RZ.out.below hb (Nat.le_refl _))
    replace B0 := hid (bon B0.out hb)
    replace c0 := cellB hb c0 (Nat.le_refl _)
    clear hb
    go_wp2
    go_ret
    exact ⟨rfl, B0.out⟩
  · have h1 := hid (show decide (SetP (nums rs) zs) = false by simpa using hs)
    have HFIN := hid (show ¬ ConnIn (nums rs) zs from fun h => hs h.1)
    clear hs
    go_enter Tryd.func77, Tryd.ntmps77
    go_wp2_with fail
    rw [← HW.out]
    go_wp2_with fail
    refine (specSetOk_b a rs c a' zs c' _ _ h1.out RA.out hn RZ.out hm).mono ?_
    rintro e w3 ⟨rfl, hb⟩
    replace RA := hid (RA.out.below hb (Nat.le_refl _))
    replace RZ := hid (RZ.out.below hb (Nat.le_refl _))
    replace B0 := hid (bon B0.out hb)
    replace c0 := cellB hb c0 (Nat.le_refl _)
    clear hb
    go_wp2
    go_ret
    exact ⟨ret_bool (dec_f HB.out HFIN.out), B0.out⟩
/-- .. over sets. -/
def ConnA (A : List Nat) (s : Nat) : Prop := s ≠ 0 ∧ ∀ u, s.testBit u = true → Leads A s (low s) u
noncomputable instance (A : List Nat) (s : Nat) : Decidable (ConnA A s) := Classical.propDecidable _
theorem leads_in {A : List Nat} {s v : Nat} (hv : s.testBit v = true) {u : Nat} (h : Leads A s v u) : s.testBit u = true := by
  obtain ⟨d, hd⟩ := h
  induction d generalizing u with
  | zero => have e : u = v := hd
            rw [e]; exact hv
  | succ d ih =>
    rcases hd with h1 | ⟨h1, _⟩
    · exact ih h1
    · exact h1
set_option maxHeartbeats 4000000 in
theorem connected_b (a : Option Addr) (A : List Nat) (c s : Nat) (w : World) (b : Bool) (hb : decide (ConnA A s) = b) (hT : TabOk w) (hr : Rd maskF w a A) (hA : ∀ x ∈ A, x < 65536) (hAn : A.length ≤ 16) (hs : s < 2 ^ A.length) :
    Calls Tryd.prog 131 #[.slice a A.length c, .int .u32 s] w fun e w' => e = .returned (.bool b) ∧ Below w.heap.size w w' := by
  have RT := hid hT; have RA := hid hr; have HA := hid hA; have HB := hid hb; have HS := hid hs
  have hs16 : s < 65536 := Nat.lt_of_lt_of_le hs (Nat.pow_le_pow_right (n := 2) (i := A.length) (j := 16) (by decide) hAn)
  clear hT hr hA hb hs
  have B0 := hid (Below.refl w.heap.size w)
  by_cases h0 : s = 0
  · have d0 : ((s : Int) != 0) = false := by rw [h0]; rfl
    have HFIN := hid (show ¬ ConnA A s from fun h => h.1 h0)
    clear h0
    go_enter Tryd.func131, Tryd.ntmps131
    go_wp2
    go_ret
    exact ⟨ret_bool (dec_f HB.out HFIN.out), B0.out⟩
  · have d0 : ((s : Int) != 0) = true := by simp; omega
    have hlb := low_bit h0 (show s < 4294967296 by omega)
    have hll : low s < A.length := by
      have := mems_under HS.out hAn (low s : Int) ((mems_mem (by omega)).2 ⟨_, rfl, hlb⟩)
      omega
    go_enter Tryd.func131, Tryd.ntmps131
    go_wp2_with fail
    refine (least_any s w RT.out h0 (by omega)).mono ?_
    rintro e w1 ⟨rfl, hd⟩
    have RT1 := hid (RT.out.drawn hd); have RA1 := hid (RA.out.drawn hd); have B1 := hid (B0.out.trans (hd.below _)); clear hd
    go_wp2_with fail
    refine (reach_any a A c (low s) s w1 RT1.out RA1.out HA.out hAn hll HS.out).mono ?_
    rintro e w2 ⟨R, rfl, hR, hlead, hb⟩
    have B2 := hid (bon B1.out hb); clear hb
    have HFIN := hid (show ((R : Int) == (s : Int)) = b by
      rw [← HB.out, Bool.eq_iff_iff, beq_iff_eq, decide_eq_true_iff]
      constructor
      · intro e
        have e2 : R = s := by omega
        exact ⟨h0, fun u hu => (hlead u).1 (by rw [e2]; exact hu)⟩
      · intro h
        have : R = s := by
          apply Nat.eq_of_testBit_eq
          intro u
          rw [Bool.eq_iff_iff, hlead u]
          exact ⟨fun hl => leads_in hlb hl, fun hu => h.2 u hu⟩
        rw [this])
    clear hlead h0 hlb
    go_wp2
    go_ret
    exact ⟨ret_bool HFIN.out, B2.out⟩
/-- Of a set of a graph: connected, told both ways. -/
theorem conn_iff {g : List (List Int)} {s : List Int} (hs : SetP g s) : ConnA (g.map maskL) (maskL s) ↔ ConnP g s := by
  have hg := hs.1
  have h16 := hg.le
  have hnn : ∀ v ∈ s, 0 ≤ v := fun v hv => (hs.2.1 v hv).1
  have hbit : ∀ u : Nat, (maskL s).testBit u = true ↔ (u : Int) ∈ s := fun u => by rw [testBit_maskL s u hnn]; simp
  have hmem := mems_maskL hs.2 (by omega : ((g.length : Nat) : Int) ≤ 16)
  have hlt : maskL s < 65536 := maskL_lt s 16 (fun v hv => by have := hs.2.1 v hv; omega)
  have hnil : s ≠ [] ↔ maskL s ≠ 0 := by
    constructor
    · intro h he
      rw [he, mems_zero] at hmem; exact h hmem.symm
    · intro h he
      rw [he] at h; exact h rfl
  have hrow : ∀ x u : Nat, x < g.length → (((g.map maskL).getD x 0).testBit u = true ↔ (u : Int) ∈ row g (x : Int)) := by
    intro x u hx
    have e1 : (g.map maskL).getD x 0 = maskL (row g (x : Int)) := by
      rw [List.getD_eq_getElem?_getD, List.getElem?_map, List.getElem?_eq_getElem hx, row_nat _ _ hx]; rfl
    rw [e1, row_mask_bit hg x u hx]; simp
  have hball : ∀ v : Nat, (v : Int) ∈ s → ∀ d u, BallA (g.map maskL) (maskL s) v d u ↔ Ball g s (v : Int) d (u : Int) := by
    intro v hv d
    induction d with
    | zero =>
      intro u
      show u = v ↔ (u : Int) = (v : Int)
      omega
    | succ d ih =>
      intro u
      show (_ ∨ _) ↔ (_ ∨ _)
      rw [ih u, hbit u]
      constructor
      · rintro (h | ⟨h1, x, h2, h3⟩)
        · exact .inl h
        · have hx : x < g.length := by
            apply Classical.byContradiction
            intro hn
            rw [List.getD_eq_getElem?_getD, List.getElem?_eq_none (by simp; omega)] at h3
            simp at h3
          exact .inr ⟨h1, (x : Int), (ih x).1 h2, (hrow x u hx).1 h3⟩
      · rintro (h | ⟨h1, x, h2, h3⟩)
        · exact .inl h
        · have hx := hs.2.1 x (ball_in hv h2)
          obtain ⟨m, rfl⟩ := Int.eq_ofNat_of_zero_le hx.1
          exact .inr ⟨h1, m, (ih m).2 h2, (hrow m u (by omega)).2 h3⟩
  unfold ConnA ConnP
  rw [hnil]
  constructor
  · rintro ⟨h0, h⟩
    have hc := mems_cons h0 (show maskL s < 4294967296 by omega)
    rw [hmem] at hc
    have hv : s.getD 0 0 = (low (maskL s) : Int) := congrArg (fun l : List Int => l.getD 0 0) hc
    have hvs : (low (maskL s) : Int) ∈ s := (hbit _).1 (low_bit h0 (by omega))
    refine ⟨h0, fun u hu => ?_⟩
    have hu0 := hs.2.1 u hu
    obtain ⟨m, rfl⟩ := Int.eq_ofNat_of_zero_le hu0.1
    obtain ⟨d, hd⟩ := h m ((hbit m).2 hu)
    rw [hv]
    exact ⟨d, (hball _ hvs d m).1 hd⟩
  · rintro ⟨h0, h⟩
    have hc := mems_cons h0 (show maskL s < 4294967296 by omega)
    rw [hmem] at hc
    have hv : s.getD 0 0 = (low (maskL s) : Int) := congrArg (fun l : List Int => l.getD 0 0) hc
    have hvs : (low (maskL s) : Int) ∈ s := (hbit _).1 (low_bit h0 (by omega))
    refine ⟨h0, fun u hu => ?_⟩
    obtain ⟨d, hd⟩ := h (u : Int) ((hbit u).1 hu)
    rw [hv] at hd
    exact ⟨d, (hball _ hvs d u).2 hd⟩
set_option maxHeartbeats 4000000 in
theorem implConnectedIn_b (a : Option Addr) (rs : List Row) (c : Nat) (a' : Option Addr) (zs : List Int) (c' : Nat) (w : World) (b : Bool) (hb : decide (ConnIn (nums rs) zs) = b) (hr : RdM w a rs) (hn : Small rs) (hz : Rd (Value.int .i64) w a' zs) (hm : zs.length ≤ 1048576) (hT : TabOk w) :
    Calls Tryd.prog 80 #[.agg #[.slice a rs.length c], .slice a' zs.length c'] w fun e w' => e = .returned (.bool b) ∧ Below w.heap.size w w' := by
  have RA := hid hr; have RZ := hid hz; have HB := hid hb; have RT := hid hT; clear hr hz hb hT
  obtain ⟨w0, hw0⟩ : ∃ w0, w0 = (w.alloc (.cells #[.slice a rs.length c] 29)) := ⟨_, rfl⟩
  have B0 := hid (show Below w.heap.size w w0 by rw [hw0]; exact ((Below.refl _ _).alloc (Nat.le_refl _) _))
  have c0 : w0.cell? ⟨w.heap.size, 0, none⟩ = some (.slice a rs.length c) := by rw [hw0]; simp [go_sem]
  replace RA := hid (RA.out.below B0.out (Nat.le_refl _))
  replace RZ := hid (RZ.out.below B0.out (Nat.le_refl _))
  replace RT := hid (RT.out.below B0.out (Nat.le_refl _))
  have HW := hid hw0; clear hw0
  by_cases hs : SetP (nums rs) zs
  · have h1 := hid (show decide (SetP (nums rs) zs) = true by simpa using hs)
    have HS := hid hs
    have hV := hid (show ∀ v ∈ zs, 0 ≤ v ∧ v < 16 from fun v hv => by have := hs.2.1 v hv; have := hs.1.le; omega)
    have hml := hid (show maskL zs < 2 ^ ((nums rs).map maskL).length by rw [List.length_map]; exact maskL_lt_len hs.2)
    have hlen := hid (show ((nums rs).map maskL).length ≤ 16 by rw [List.length_map]; exact hs.1.le)
    have h2 := hid (show decide (ConnA ((nums rs).map maskL) (maskL zs)) = b by
      rw [← HB.out, decide_eq_decide, conn_iff hs]
      exact ⟨fun h => ⟨hs, h⟩, fun h => h.2⟩)
    clear hs
    go_enter Tryd.func80, Tryd.ntmps80
    go_wp2_with fail
    rw [← HW.out]
    go_wp2_with fail
    refine (implSetOk_b a rs c a' zs c' _ _ h1.out RA.out hn RZ.out hm).mono ?_
    rintro e w1 ⟨rfl, hb⟩
    replace RA := hid (RA.out.below hb (Nat.le_refl _))
    replace RZ := hid (RZ.out.below hb (Nat.le_refl _))
    replace RT := hid (RT.out.below hb (Nat.le_refl _))
    replace B0 := hid (bon B0.out hb)
    replace c0 := cellB hb c0 (Nat.le_refl _)
    clear hb
    go_wp2_with fail
    refine (netsOf_any a rs c _ HS.out.1 RA.out hn).mono ?_
    rintro e w2 ⟨v, rfl, hown, hb⟩
    replace RA := hid (RA.out.below hb (Nat.le_refl _))
    replace RZ := hid (RZ.out.below hb (Nat.le_refl _))
    replace RT := hid (RT.out.below hb (Nat.le_refl _))
    replace B0 := hid (bon B0.out hb)
    replace c0 := cellB hb c0 (Nat.le_refl _)
    clear hb
    obtain ⟨na, nc, rfl, hsr, _, _, _, _⟩ := Own.rd (f := netF) hown
    have RN := hid hsr.masks; clear hown hsr
    go_wp2_with (first | (go_at_call 84; refine (maskOf_any _ _ _ _ RZ.out hm hV.out).mono ?_; rintro e w' ⟨rfl, rfl⟩))
    have hq := connected_b na ((nums rs).map maskL) nc (maskL zs) _ _ h2.out RT.out RN.out (in16_of HS.out.1) hlen.out hml.out
    rw [List.length_map] at hq
    refine hq.mono ?_
    rintro e w' ⟨rfl, hb⟩
    have B1 := hid (bon B0.out hb)
    go_wp2
    go_ret
    exact ⟨rfl, B1.out⟩
  · have h1 := hid (show decide (SetP (nums rs) zs) = false by simpa using hs)
    have HFIN := hid (show ¬ ConnIn (nums rs) zs from fun h => hs h.1)
    clear hs
    go_enter Tryd.func80, Tryd.ntmps80
    go_wp2_with fail
    rw [← HW.out]
    go_wp2_with fail
    refine (implSetOk_b a rs c a' zs c' _ _ h1.out RA.out hn RZ.out hm).mono ?_
    rintro e w3 ⟨rfl, hb⟩
    replace RA := hid (RA.out.below hb (Nat.le_refl _))
    replace RZ := hid (RZ.out.below hb (Nat.le_refl _))
    replace RT := hid (RT.out.below hb (Nat.le_refl _))
    replace B0 := hid (bon B0.out hb)
    replace c0 := cellB hb c0 (Nat.le_refl _)
    clear hb
    go_wp2
    go_ret
    exact ⟨ret_bool (dec_f HB.out HFIN.out), B0.out⟩
end Go.Proofs.YtalfbldkdlanoaaDoor
