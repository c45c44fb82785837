/- DistancesFrom: both. -/
import Derived.Test.YtalfbldkdlanoaaDoorDist
import Derived.Deep.RegionHeld3
namespace Go.Proofs.YtalfbldkdlanoaaDoor
open Go.RowKit
theorem distL_ok {g : List (List Int)} {v : Int} (h : VertP g v) : distL g v = fromL g (allL g.length) v := by
  unfold distL fromL
  rw [if_pos h, if_pos ((allL_mem _ _).2 h.2)]
theorem setP_all {g : List (List Int)} (h : GOk g) : SetP g (allL g.length) := ⟨h, allL_inc _⟩
set_option maxRecDepth 100000 in
set_option maxHeartbeats 1000000 in
theorem specDistancesFrom_any (a : Option Addr) (rs : List Row) (c : Nat) (v : Int) (w : World) (r : List Int) (hx : distL (nums rs) v = r) (hr : RdM w a rs) (hn : Small rs) (_hv : I64 v) :
    Calls Tryd.prog 92 #[.agg #[.slice a rs.length c], .int .i64 v] w (RetOwn 2 (r.map (.int .i64)) w) := by
  have RA := hid hr; have HX := hid hx; clear hr hx
  have hn1 := hn.1
  obtain ⟨w0, hw0⟩ : ∃ w0, w0 = (w.alloc (.cells #[.slice a rs.length c] 29)) := ⟨_, rfl⟩
  have B0 := hid (show Below w.heap.size w w0 by rw [hw0]; exact ((Below.refl _ _).alloc (Nat.le_refl _) _))
  have c0 : w0.cell? ⟨w.heap.size, 0, none⟩ = some (.slice a rs.length c) := by rw [hw0]; simp [go_sem]
  replace RA := hid (RA.out.below B0.out (Nat.le_refl _))
  have HW := hid hw0; clear hw0
  by_cases hg : GOk (nums rs)
  · have h1 := hid (show decide (GOk (nums rs)) = true by simpa using hg)
    have HG := hid hg
    have h16 : rs.length ≤ 16 := by have := hg.le; rwa [nums_length] at this
    by_cases hv : 0 ≤ v ∧ v < rs.length
    · have h2 := hid (show decide (0 ≤ v ∧ v < rs.length) = true by simpa using hv)
      obtain ⟨m, rfl⟩ := Int.eq_ofNat_of_zero_le hv.1
      have hm : m < rs.length := by omega
      have HFIN := hid (show fromL (nums rs) (allL rs.length) (m : Int) = r by
        rw [← HX.out, distL_ok ⟨hg, by rw [nums_length]; exact hv⟩, nums_length])
      clear hv HX hg
      go_enter Tryd.func92, Tryd.ntmps92
      go_wp2_with fail
      rw [← HW.out]
      go_wp2_with fail
      refine (specGraphOk_b a rs c _ _ h1.out RA.out hn).mono ?_
      rintro e w1 ⟨rfl, hb⟩
      replace RA := hid (RA.out.below hb (Nat.le_refl _))
      replace B0 := hid (bon B0.out hb)
      replace c0 := cellB hb c0 (Nat.le_refl _)
      clear hb
      go_wp2_with fail
      refine (l1There_b a rs c _ _ _ h2.out hn1).mono ?_
      rintro e w2 ⟨rfl, hb⟩
      replace RA := hid (RA.out.below hb (Nat.le_refl _))
      replace B0 := hid (bon B0.out hb)
      replace c0 := cellB hb c0 (Nat.le_refl _)
      clear hb
      go_wp2_with fail
      have D3 : Drawn w2 w2.drew := ⟨1, rfl⟩
      have RA3 := hid (RA.out.drawn D3)
      have B3 := hid (B0.out.trans (D3.below _))
      have f0 := dcell D3 c0
      go_region_held3 (fun w' => w'.cell? ⟨w.heap.size, 0, none⟩ = some (.slice a rs.length c)) (first | exact f0 | exact g0 | exact k0 | exact m0) ((first | (go_at_call 90; refine (l1Size_any _ _ _ _ hn1).mono ?_; rintro e w4 ⟨rfl, hb⟩; have g0 := cellB hb f0 (Nat.le_refl _); have RA4 := hid (RA3.out.below hb (Nat.le_refl _)); have B4 := hid (bon B3.out hb); clear hb) | (go_at_call 106; refine (l1All_any _ _ h16).mono ?_; rintro e w5 ⟨pv, rfl, hown, hb⟩; obtain ⟨pa, pc, rfl, hpr, _⟩ := Own.rd hown; have k0 := cellB hb g0 (Nat.le_refl _); have RA5 := hid (RA4.out.below hb (Nat.le_refl _)); have RP5 := hid hpr; have B5 := hid (bon B4.out hb); clear hown hb hpr) | (go_at_call 105; refine (l3From_any _ _ _ _ _ _ _ _ HG.out RA5.out hn RP5.out (by rw [allL_len]; omega) hm).mono ?_; rw [HFIN.out]; rintro e w6 ⟨qv, rfl, hown, hb⟩; have m0 := cellB hb k0 (Nat.le_refl _); have OQ := hid (hown.base B5.out.size); have B6 := hid (bon B5.out hb); clear hown hb)))
      go_wp2
      go_ret
      exact ⟨_, rfl, OQ.out, B6.out⟩
    · have h2 := hid (show decide (0 ≤ v ∧ v < rs.length) = false by simpa using hv)
      have HFIN := hid (show [] = r by rw [← HX.out]; unfold distL; rw [if_neg]; rintro ⟨_, h⟩; rw [nums_length] at h; exact hv h)
      clear hv HX hg
      go_enter Tryd.func92, Tryd.ntmps92
      go_wp2_with fail
      rw [← HW.out]
      go_wp2_with fail
      refine (specGraphOk_b a rs c _ _ h1.out RA.out hn).mono ?_
      rintro e w3 ⟨rfl, hb⟩
      replace RA := hid (RA.out.below hb (Nat.le_refl _))
      replace B0 := hid (bon B0.out hb)
      replace c0 := cellB hb c0 (Nat.le_refl _)
      clear hb
      go_wp2_with fail
      refine (l1There_b a rs c _ _ _ h2.out hn1).mono ?_
      rintro e w4 ⟨rfl, hb⟩
      replace RA := hid (RA.out.below hb (Nat.le_refl _))
      replace B0 := hid (bon B0.out hb)
      replace c0 := cellB hb c0 (Nat.le_refl _)
      clear hb
      go_wp2
      go_ret
      rw [← HFIN.out]
      exact ⟨_, rfl, (own_new 2 w4 [] (by decide)).base B0.out.size, B0.out.trans ((alloc_below w4 _).mono B0.out.size)⟩
  · have h1 := hid (show decide (GOk (nums rs)) = false by simpa using hg)
    have HFIN := hid (show [] = r by rw [← HX.out]; unfold distL; rw [if_neg]; rintro ⟨h, _⟩; exact hg h)
    clear HX hg
    go_enter Tryd.func92, Tryd.ntmps92
    go_wp2_with fail
    rw [← HW.out]
    go_wp2_with fail
    refine (specGraphOk_b a rs c _ _ h1.out RA.out hn).mono ?_
    rintro e w5 ⟨rfl, hb⟩
    replace RA := hid (RA.out.below hb (Nat.le_refl _))
    replace B0 := hid (bon B0.out hb)
    replace c0 := cellB hb c0 (Nat.le_refl _)
    clear hb
    go_wp2
    go_ret
    rw [← HFIN.out]
    exact ⟨_, rfl, (own_new 2 w5 [] (by decide)).base B0.out.size, B0.out.trans ((alloc_below w5 _).mono B0.out.size)⟩
set_option maxRecDepth 100000 in
set_option maxHeartbeats 1000000 in
theorem implDistancesFrom_any (a : Option Addr) (rs : List Row) (c : Nat) (v : Int) (w : World) (r : List Int) (hx : distL (nums rs) v = r) (hr : RdM w a rs) (hn : Small rs) (_hv : I64 v) (hT : TabOk w) :
    Calls Tryd.prog 49 #[.agg #[.slice a rs.length c], .int .i64 v] w (RetOwn 2 (r.map (.int .i64)) w) := by
  have RA := hid hr; have HX := hid hx; have RT := hid hT; clear hr hx hT
  have hn1 := hn.1
  obtain ⟨w0, hw0⟩ : ∃ w0, w0 = (w.alloc (.cells #[.slice a rs.length c] 29)) := ⟨_, rfl⟩
  have B0 := hid (show Below w.heap.size w w0 by rw [hw0]; exact ((Below.refl _ _).alloc (Nat.le_refl _) _))
  have c0 : w0.cell? ⟨w.heap.size, 0, none⟩ = some (.slice a rs.length c) := by rw [hw0]; simp [go_sem]
  replace RA := hid (RA.out.below B0.out (Nat.le_refl _))
  replace RT := hid (RT.out.below B0.out (Nat.le_refl _))
  have HW := hid hw0; clear hw0
  by_cases hs : VertP (nums rs) v
  · have h1 := hid (show decide (VertP (nums rs) v) = true by simpa using hs)
    have hv := hs.2
    rw [nums_length] at hv
    obtain ⟨m, rfl⟩ := Int.eq_ofNat_of_zero_le hv.1
    have HG := hid hs.1
    have h16 : rs.length ≤ 16 := by have := HG.out.le; rwa [nums_length] at this
    have hlen := hid (show ((nums rs).map maskL).length ≤ 16 by rw [List.length_map]; exact HG.out.le)
    have hlr := hid (show ((nums rs).map maskL).length = rs.length by rw [List.length_map, nums_length])
    have hml := hid (show 2 ^ rs.length - 1 < 2 ^ ((nums rs).map maskL).length by rw [hlr.out]; have := Nat.two_pow_pos rs.length; omega)
    have hvl := hid (show m < ((nums rs).map maskL).length by rw [hlr.out]; omega)
    have HFIN := hid (fun (D : List Int) (hl : D.length = ((nums rs).map maskL).length) (h : ∀ u, u < ((nums rs).map maskL).length → (∃ d : Nat, D.getD u 0 = d ∧ DistA ((nums rs).map maskL) (2 ^ rs.length - 1) m u d) ∨ (D.getD u 0 = -1 ∧ ¬ Leads ((nums rs).map maskL) (2 ^ rs.length - 1) m u)) => (show D = r by
      rw [← HX.out, distL_ok hs]
      unfold fromL
      rw [if_pos ((allL_mem _ _).2 hs.2)]
      refine dist_far (setP_all hs.1) ((allL_mem _ _).2 hs.2) (by rw [hl, List.length_map]) ?_
      rw [allL_mask, nums_length]
      intro u hu
      exact h u (by rw [hlr.out]; exact hu)))
    have HALL := hid (fun (a : Option Addr) (n c : Nat) (w : World) (e : n = rs.length) => (show Calls Tryd.prog 95 #[.slice a n c] w fun e w' => e = .returned (.int .u32 ((2 ^ rs.length - 1 : Nat) : Int)) ∧ w = w' by rw [← e]; exact all_any a n c w (by omega)))
    clear HX hs
    generalize 2 ^ rs.length - 1 = F at *
    go_enter Tryd.func49, Tryd.ntmps49
    go_wp2_with fail
    rw [← HW.out]
    go_wp2_with fail
    refine (isVertex_b a rs c _ _ _ h1.out RA.out hn).mono ?_
    rintro e w1 ⟨rfl, hb⟩
    replace RA := hid (RA.out.below hb (Nat.le_refl _))
    replace RT := hid (RT.out.below hb (Nat.le_refl _))
    replace B0 := hid (bon B0.out hb)
    replace c0 := cellB hb c0 (Nat.le_refl _)
    clear hb
    go_wp2_with fail
    refine (netsOf_any a rs c _ HG.out RA.out hn).mono ?_
    rintro e w2 ⟨v, rfl, hown, hb⟩
    replace RA := hid (RA.out.below hb (Nat.le_refl _))
    replace RT := hid (RT.out.below hb (Nat.le_refl _))
    replace B0 := hid (bon B0.out hb)
    replace c0 := cellB hb c0 (Nat.le_refl _)
    clear hb
    obtain ⟨na, nc, rfl, hsr, _, _, _, _⟩ := Own.rd (f := netF) hown
    have RN := hid hsr.masks; clear hown hsr
    rw [nums_length]
    go_wp2_with (first | (go_at_call 95; refine (HALL.out _ _ _ _ rfl).mono ?_; rintro e w' ⟨rfl, rfl⟩))
    have hq := distances_any na ((nums rs).map maskL) nc m F _ RT.out RN.out (in16_of HG.out) hlen.out hvl.out hml.out
    rw [hlr.out] at hq
    refine hq.mono ?_
    rintro e w5 ⟨D, o, rfl, hown, hDl, hDf, hb⟩
    have HD := hid (HFIN.out D (by rw [hDl, hlr.out]) (by rw [hlr.out]; exact hDf))
    have HDl := hid hDl
    obtain ⟨pa, pc, rfl, hpr, _⟩ := Own.rd hown
    have RP5 := hid hpr
    have B5 := hid (bon B0.out hb)
    clear hown hb hpr hq hDl hDf
    go_wp2_with fail
    refine (wide_any _ _ _ _ RP5.out (by rw [HDl.out]; omega)).mono ?_
    rintro e w6 ⟨qv, rfl, hown, hb⟩
    have OQ := hid (hown.base B5.out.size)
    have B6 := hid (bon B5.out hb)
    clear hown hb
    rw [HD.out] at OQ
    go_wp2
    go_ret
    exact ⟨_, rfl, OQ.out, B6.out⟩
  · have h1 := hid (show decide (VertP (nums rs) v) = false by simpa using hs)
    have HFIN := hid (show [] = r by rw [← HX.out]; unfold distL; rw [if_neg hs])
    clear hs HX
    go_enter Tryd.func49, Tryd.ntmps49
    go_wp2_with fail
    rw [← HW.out]
    go_wp2_with fail
    refine (isVertex_b a rs c _ _ _ h1.out RA.out hn).mono ?_
    rintro e w3 ⟨rfl, hb⟩
    replace RA := hid (RA.out.below hb (Nat.le_refl _))
    replace RT := hid (RT.out.below hb (Nat.le_refl _))
    replace B0 := hid (bon B0.out hb)
    replace c0 := cellB hb c0 (Nat.le_refl _)
    clear hb
    go_wp2
    go_ret
    rw [← HFIN.out]
    exact ⟨_, rfl, Own.nil _ _ _, B0.out⟩
end Go.Proofs.YtalfbldkdlanoaaDoor
