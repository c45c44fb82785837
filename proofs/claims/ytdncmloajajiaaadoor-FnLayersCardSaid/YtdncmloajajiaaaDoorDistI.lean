/- DistancesFrom: both. -/
import Derived.Test.YtdncmloajajiaaaDoorDist
import Derived.Deep.RegionHeld3
namespace Go.Proofs.YtdncmloajajiaaaDoor
open Go.RowKit
theorem distL_ok {g : List (List Int)} {v : Int} (h : VertP g v) : distL g v = fromL g (allL g.length) v := by
  unfold distL fromL
  rw [if_pos h, if_pos ((allL_mem _ _).2 h.2)]
theorem setP_all {g : List (List Int)} (h : GOk g) : SetP g (allL g.length) := ⟨h, allL_inc _⟩
set_option maxRecDepth 100000 in
set_option maxHeartbeats 1000000 in
theorem implDistancesFrom_any (a : Option Addr) (rs : List Row) (c : Nat) (v : Int) (w : World) (r : List Int) (hx : distL (nums rs) v = r) (hr : RdM w a rs) (hn : Small rs) (_hv : I64 v) (hT : TabOk w) :
    Calls Tryd.prog 17 #[.agg #[.slice a rs.length c], .int .i64 v] w (RetOwn 2 (r.map (.int .i64)) w) := by
  have RA := hid hr; have HX := hid hx; have RT := hid hT; clear hr hx hT
  have hn1 := hn.1
  obtain ⟨w0, hw0⟩ : ∃ w0, w0 = (w.alloc (.cells #[.slice a rs.length c] 29)) := ⟨_, rfl⟩
  have B0 := hid (show Below w.heap.size w w0 by rw [hw0]; exact ((Below.refl _ _).alloc (Nat.le_refl _) _))
  have c0 : w0.cell? ⟨w.heap.size, 0, none⟩ = some (.slice a rs.length c) := by rw [hw0]; simp [go_sem]
  replace RA := hid (RA.out.below B0.out (Nat.le_refl _))
  replace RT := hid (RT.out.below B0.out (Nat.le_refl _))
  have HW := hid hw0; clear hw0
  by_cases hs : VertP (nums rs) v
  · have h1 := hid (show decide (VertP (nums rs) v) = true by simpa using hs)
    have hv := hs.2
    rw [nums_length] at hv
    obtain ⟨m, rfl⟩ := Int.eq_ofNat_of_zero_le hv.1
    have HG := hid hs.1
    have h16 : rs.length ≤ 16 := by have := HG.out.le; rwa [nums_length] at this
    have hlen := hid (show ((nums rs).map maskL).length ≤ 16 by rw [List.length_map]; exact HG.out.le)
    have hlr := hid (show ((nums rs).map maskL).length = rs.length by rw [List.length_map, nums_length])
    have hml := hid (show 2 ^ rs.length - 1 < 2 ^ ((nums rs).map maskL).length by rw [hlr.out]; have := Nat.two_pow_pos rs.length; omega)
    have hvl := hid (show m < ((nums rs).map maskL).length by rw [hlr.out]; omega)
    have HFIN := hid (fun (D : List Int) (hl : D.length = ((nums rs).map maskL).length) (h : ∀ u, u < ((nums rs).map maskL).length → (∃ d : Nat, D.getD u 0 = d ∧ DistA ((nums rs).map maskL) (2 ^ rs.length - 1) m u d) ∨ (D.getD u 0 = -1 ∧ ¬ Leads ((nums rs).map maskL) (2 ^ rs.length - 1) m u)) => (show D = r by
      rw [← HX.out, distL_ok hs]
      unfold fromL
      rw [if_pos ((allL_mem _ _).2 hs.2)]
      refine dist_far (setP_all hs.1) ((allL_mem _ _).2 hs.2) (by rw [hl, List.length_map]) ?_
      rw [allL_mask, nums_length]
      intro u hu
      exact h u (by rw [hlr.out]; exact hu)))
    have HALL := hid (fun (a : Option Addr) (n c : Nat) (w : World) (e : n = rs.length) => (show Calls Tryd.prog 48 #[.slice a n c] w fun e w' => e = .returned (.int .u32 ((2 ^ rs.length - 1 : Nat) : Int)) ∧ w = w' by rw [← e]; exact all_any a n c w (by omega)))
    clear HX hs
    generalize 2 ^ rs.length - 1 = F at *
    go_enter Tryd.func17, Tryd.ntmps17
    go_wp2_with fail
    rw [← HW.out]
    go_wp2_with fail
    refine (isVertex_b a rs c _ _ _ h1.out RA.out hn).mono ?_
    rintro e w1 ⟨rfl, hb⟩
    replace RA := hid (RA.out.below hb (Nat.le_refl _))
    replace RT := hid (RT.out.below hb (Nat.le_refl _))
    replace B0 := hid (bon B0.out hb)
    replace c0 := cellB hb c0 (Nat.le_refl _)
    clear hb
    go_wp2_with fail
    refine (netsOf_any a rs c _ HG.out RA.out hn).mono ?_
    rintro e w2 ⟨v, rfl, hown, hb⟩
    replace RA := hid (RA.out.below hb (Nat.le_refl _))
    replace RT := hid (RT.out.below hb (Nat.le_refl _))
    replace B0 := hid (bon B0.out hb)
    replace c0 := cellB hb c0 (Nat.le_refl _)
    clear hb
    obtain ⟨na, nc, rfl, hsr, _, _, _, _⟩ := Own.rd (f := netF) hown
    have RN := hid hsr.masks; clear hown hsr
    rw [nums_length]
    go_wp2_with (first | (go_at_call 48; refine (HALL.out _ _ _ _ rfl).mono ?_; rintro e w' ⟨rfl, rfl⟩))
    have hq := distances_any na ((nums rs).map maskL) nc m F _ RT.out RN.out (in16_of HG.out) hlen.out hvl.out hml.out
    rw [hlr.out] at hq
    refine hq.mono ?_
    rintro e w5 ⟨D, o, rfl, hown, hDl, hDf, hb⟩
    have HD := hid (HFIN.out D (by rw [hDl, hlr.out]) (by rw [hlr.out]; exact hDf))
    have HDl := hid hDl
    obtain ⟨pa, pc, rfl, hpr, _⟩ := Own.rd hown
    have RP5 := hid hpr
    have B5 := hid (bon B0.out hb)
    clear hown hb hpr hq hDl hDf
    go_wp2_with fail
    refine (wide_any _ _ _ _ RP5.out (by rw [HDl.out]; omega)).mono ?_
    rintro e w6 ⟨qv, rfl, hown, hb⟩
    have OQ := hid (hown.base B5.out.size)
    have B6 := hid (bon B5.out hb)
    clear hown hb
    rw [HD.out] at OQ
    go_wp2
    go_ret
    exact ⟨_, rfl, OQ.out, B6.out⟩
  · have h1 := hid (show decide (VertP (nums rs) v) = false by simpa using hs)
    have HFIN := hid (show [] = r by rw [← HX.out]; unfold distL; rw [if_neg hs])
    clear hs HX
    go_enter Tryd.func17, Tryd.ntmps17
    go_wp2_with fail
    rw [← HW.out]
    go_wp2_with fail
    refine (isVertex_b a rs c _ _ _ h1.out RA.out hn).mono ?_
    rintro e w3 ⟨rfl, hb⟩
    replace RA := hid (RA.out.below hb (Nat.le_refl _))
    replace RT := hid (RT.out.below hb (Nat.le_refl _))
    replace B0 := hid (bon B0.out hb)
    replace c0 := cellB hb c0 (Nat.le_refl _)
    clear hb
    go_wp2
    go_ret
    rw [← HFIN.out]
    exact ⟨_, rfl, Own.nil _ _ _, B0.out⟩
end Go.Proofs.YtdncmloajajiaaaDoor
