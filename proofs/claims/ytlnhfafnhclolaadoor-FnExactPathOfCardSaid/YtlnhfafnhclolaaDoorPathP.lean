/- PathOf: both walks. -/
import Derived.Test.YtlnhfafnhclolaaDoorPathL
namespace Go.Proofs.YtlnhfafnhclolaaDoor
open Go.RowKit
theorem eql_nil (a : Option Addr) (l c : Nat) (w : World) : (binOp .eql 66 (.slice a l c) (.slice none 0 0)).run Tryd.prog w = .ok (.bool a.isNone) w := by
  simp only [binOp]
  simp [run_equal_slice_nil w 66 3 a l c Tryd.underlying66]
theorem pathL_no {g : List (List Int)} {u v : Int} (h : ¬ (VertP g u ∧ VertP g v)) : pathL g u v = [] := by unfold pathL; rw [if_neg h]
/-- What the program's search gives. -/
theorem pathX_all {g : List (List Int)} (hg : GOk g) {u v : Nat} (hu : u < g.length) (hv : v < g.length) :
    pathX (g.map maskL) (2 ^ g.length - 1) (farL g (allL g.length) v) u = if 0 ≤ far g (allL g.length) v u then some (pathL g u v) else none := by
  have hs := setP_all hg
  have hvm : (v : Int) ∈ allL g.length := (allL_mem _ _).2 (by omega)
  have hget : (farL g (allL g.length) (v : Int)).getD u 0 = far g (allL g.length) v u := farL_get (x := (u : Int)) (by omega) (by omega)
  unfold pathX
  rw [hget]
  by_cases h0 : 0 ≤ far g (allL g.length) (v : Int) (u : Int)
  · rw [if_neg (by omega), if_pos h0]
    unfold pathL
    rw [if_pos ⟨⟨hg, by omega⟩, ⟨hg, by omega⟩⟩, if_pos h0]
    congr 1
    exact downL_congr (desc_far hs hvm) (fun x h1 h2 => rows_all hg h1 h2) _ _ (by omega) (by omega) (by rw [farL_get (by omega) (by omega), Int.toNat_of_nonneg h0])
  · rw [if_pos (by omega), if_neg h0]
set_option maxRecDepth 100000 in
set_option maxHeartbeats 2000000 in
theorem implPathOf_any (a : Option Addr) (rs : List Row) (c : Nat) (u v : Int) (w : World) (r : List Int) (hx : pathL (nums rs) u v = r) (hr : RdM w a rs) (hn : Small rs) (_hu : I64 u) (_hv : I64 v) (hT : TabOk w) :
    Calls Tryd.prog 49 #[.agg #[.slice a rs.length c], .int .i64 u, .int .i64 v] w (RetOwn 2 (r.map (.int .i64)) w) := by
  have RA := hid hr; have HX := hid hx; have RT := hid hT; clear hr hx hT _hu _hv
  have hn1 := hn.1
  obtain ⟨w0, hw0⟩ : ∃ w0, w0 = (w.alloc (.cells #[.slice a rs.length c] 28)) := ⟨_, rfl⟩
  have B0 := hid (show Below w.heap.size w w0 by rw [hw0]; exact ((Below.refl _ _).alloc (Nat.le_refl _) _))
  have c0 : w0.cell? ⟨w.heap.size, 0, none⟩ = some (.slice a rs.length c) := by rw [hw0]; simp [go_sem]
  replace RA := hid (RA.out.below B0.out (Nat.le_refl _))
  replace RT := hid (RT.out.below B0.out (Nat.le_refl _))
  have HW := hid hw0; clear hw0
  by_cases hs : VertP (nums rs) u ∧ VertP (nums rs) v
  · have h1 := hid (show decide (VertP (nums rs) u ∧ VertP (nums rs) v) = true by simpa using hs)
    have hu := hs.1.2; have hv := hs.2.2
    rw [nums_length] at hu hv
    obtain ⟨p, rfl⟩ := Int.eq_ofNat_of_zero_le hu.1
    obtain ⟨m, rfl⟩ := Int.eq_ofNat_of_zero_le hv.1
    have HG := hid hs.1.1
    have hpl : p < rs.length := by omega
    have hml : m < rs.length := by omega
    have h16 : rs.length ≤ 16 := by have := HG.out.le; rwa [nums_length] at this
    have hnl : (nums rs).length = rs.length := nums_length rs
    have HLR := hid (show ((nums rs).map maskL).length = rs.length by rw [List.length_map, nums_length])
    have hset := setP_all hs.1.1
    have hvm : (m : Int) ∈ allL (nums rs).length := (allL_mem _ _).2 (by omega)
    have hdesc := desc_far hset hvm
    have HDS := hid (show Desc rs.length (rowsIn ((nums rs).map maskL) (2 ^ rs.length - 1)) (farL (nums rs) (allL (nums rs).length) (m : Int)) by
      have := desc_in hset hvm
      rw [allL_mask, nums_length] at this; rwa [nums_length])
    have HDI := hid (show ∀ D' : List Int, D'.length = rs.length → (∀ u, u < rs.length → (∃ d : Nat, D'.getD u 0 = d ∧ DistA ((nums rs).map maskL) (2 ^ rs.length - 1) m u d) ∨ (D'.getD u 0 = -1 ∧ ¬ Leads ((nums rs).map maskL) (2 ^ rs.length - 1) m u)) → D' = farL (nums rs) (allL (nums rs).length) (m : Int) by
      intro D' hl h
      refine dist_far hset hvm (by rw [hl, nums_length]) ?_
      rw [allL_mask, nums_length]
      exact h)
    have HDL := hid (show (farL (nums rs) (allL (nums rs).length) (m : Int)).length = rs.length by rw [farL_len, nums_length])
    have H0 := hid (show ∀ x, x < rs.length → ((farL (nums rs) (allL (nums rs).length) (m : Int)).getD x 0 = 0 ↔ x = m) by
      intro x hx
      have e := farL_get (g := nums rs) (s := allL (nums rs).length) (v := (m : Int)) (x := (x : Int)) (by omega) (by omega)
      rw [Int.toNat_natCast] at e
      rw [e, far_zero]; omega)
    have H16 := hid (show ∀ x, x < rs.length → (farL (nums rs) (allL (nums rs).length) (m : Int)).getD x 0 ≤ 16 by
      intro x hx
      by_cases h : (farL (nums rs) (allL (nums rs).length) (m : Int)).getD x 0 < 0
      · omega
      · obtain ⟨d, hd⟩ := Int.eq_ofNat_of_zero_le (show 0 ≤ (farL (nums rs) (allL (nums rs).length) (m : Int)).getD x 0 by omega)
        have := down_le hdesc (d := d) (u := (x : Int)) (by omega) (by omega) (by rw [Int.toNat_natCast]; exact hd)
        rw [hd]; omega)
    obtain ⟨x, hxx⟩ : ∃ x, pathX ((nums rs).map maskL) (2 ^ rs.length - 1) (farL (nums rs) (allL (nums rs).length) (m : Int)) p = x := ⟨_, rfl⟩
    have HXX := hid hxx
    have HX2 := hid (show x = if 0 ≤ far (nums rs) (allL (nums rs).length) (m : Int) (p : Int) then some r else none by
      have := pathX_all hs.1.1 (u := p) (v := m) (by omega) (by omega)
      rw [HX.out] at this
      rw [← hxx, ← this, nums_length])
    have HX3 := hid (show x = none → [] = r by
      intro h
      have h2 := HX2.out
      rw [h] at h2
      rw [← HX.out]
      unfold pathL
      rw [if_pos hs, if_neg]
      intro h3
      rw [if_pos h3] at h2; cases h2)
    have HX4 := hid (show ∀ l, x = some l → l = r by
      intro l h
      have h2 := HX2.out
      rw [h] at h2
      split at h2
      · injection h2
      · cases h2)
    have HRL := hid (show r.length ≤ 1048576 by rw [← HX.out]; exact pathL_len _ _ _)
    have HRP := hid (show ∀ l, x = some l → l ≠ [] by
      intro l h e
      rw [h] at hxx
      unfold pathX at hxx
      split at hxx
      · cases hxx
      · injection hxx with hxx
        have := congrArg List.length hxx
        rw [downL_len, e] at this
        simp at this)
    have hml2 : 2 ^ rs.length - 1 < 2 ^ rs.length := by have := Nat.two_pow_pos rs.length; omega
    have HA16 := hid (in16_of hs.1.1)
    clear HX HX2 hs hset hvm hdesc hxx hnl
    generalize farL (nums rs) (allL (nums rs).length) (m : Int) = D at *
    generalize hA : (nums rs).map maskL = A at *
    generalize hF : 2 ^ rs.length - 1 = F at *
    go_enter Tryd.func49, Tryd.ntmps49
    go_wp2_with fail
    rw [← HW.out]
    go_wp2_with fail
    refine (isPair_b a rs c _ _ _ _ h1.out RA.out hn).mono ?_
    rintro e w1 ⟨rfl, hb⟩
    replace RA := hid (RA.out.below hb (Nat.le_refl _))
    replace RT := hid (RT.out.below hb (Nat.le_refl _))
    replace B0 := hid (bon B0.out hb)
    replace c0 := cellB hb c0 (Nat.le_refl _)
    clear hb
    go_wp2_with fail
    refine (netsOf_any a rs c _ HG.out RA.out hn).mono ?_
    rintro e w2 ⟨v, rfl, hown, hb⟩
    replace RA := hid (RA.out.below hb (Nat.le_refl _))
    replace RT := hid (RT.out.below hb (Nat.le_refl _))
    replace B0 := hid (bon B0.out hb)
    replace c0 := cellB hb c0 (Nat.le_refl _)
    clear hb
    obtain ⟨na, nc, rfl, hsr, _, _, _, _⟩ := Own.rd (f := netF) hown
    have RN := hid hsr.masks; clear hown hsr
    rw [nums_length]
    rw [hA] at RN
    go_wp2_with (first | (go_at_call 72; refine (all_p _ _ _ F _ h16 hF).mono ?_; rintro e w' ⟨rfl, rfl⟩))
    refine (pathOf_any na A nc rs.length p m F D x _ HXX.out HLR.out HDI.out HDL.out HDS.out H0.out H16.out RT.out RN.out HA16.out h16 hpl hml hml2).mono ?_
    rintro e w' (⟨hxn, rfl, hb⟩ | ⟨l, hxl, v, rfl, hown, hb⟩)
    · have B1 := hid (bon B0.out hb); clear hb
      have HN := hid (HX3.out hxn)
      have hnil := eql_nil none 0 0 w'
      go_wp2
      go_ret
      rw [← HN.out]
      exact ⟨_, rfl, Own.nil _ _ _, B1.out⟩
    · have B1 := hid (bon B0.out hb); clear hb
      have HL := hid (HX4.out l hxl)
      have hne := HRP.out l hxl
      obtain ⟨la, lc, rfl, hrd, h3, _, h5, _⟩ := Own.rd hown
      have RL := hid hrd; clear hrd hown
      have hls : ∃ ad, la = some ad := by
        cases la with
        | none =>
          have h6 := h5 rfl
          exact absurd (List.eq_nil_of_length_eq_zero (by omega)) hne
        | some ad => exact ⟨ad, rfl⟩
      obtain ⟨ad, rfl⟩ := hls
      clear h3 h5
      have hll : l.length ≤ 1048576 := by rw [HL.out]; exact HRL.out
      have hnil := eql_nil (some ad) l.length lc w'
      go_wp2_with fail
      refine (wide_any _ _ _ _ RL.out hll).mono ?_
      rintro e w6 ⟨qv, rfl, hown, hb⟩
      have OQ := hid (hown.base B1.out.size)
      have B6 := hid (bon B1.out hb)
      clear hown hb
      rw [HL.out] at OQ
      go_wp2
      go_ret
      exact ⟨_, rfl, OQ.out, B6.out⟩
  · have h1 := hid (show decide (VertP (nums rs) u ∧ VertP (nums rs) v) = false by simpa using hs)
    have HFIN := hid (show [] = r by rw [← HX.out, pathL_no hs])
    clear hs HX
    go_enter Tryd.func49, Tryd.ntmps49
    go_wp2_with fail
    rw [← HW.out]
    go_wp2_with fail
    refine (isPair_b a rs c _ _ _ _ h1.out RA.out hn).mono ?_
    rintro e w3 ⟨rfl, hb⟩
    replace RA := hid (RA.out.below hb (Nat.le_refl _))
    replace RT := hid (RT.out.below hb (Nat.le_refl _))
    replace B0 := hid (bon B0.out hb)
    replace c0 := cellB hb c0 (Nat.le_refl _)
    clear hb
    go_wp2
    go_ret
    rw [← HFIN.out]
    exact ⟨_, rfl, Own.nil _ _ _, B0.out⟩
set_option maxRecDepth 100000 in
set_option maxHeartbeats 2000000 in
theorem specPathOf_any (a : Option Addr) (rs : List Row) (c : Nat) (u v : Int) (w : World) (r : List Int) (hx : pathL (nums rs) u v = r) (hr : RdM w a rs) (hn : Small rs) (_hu : I64 u) (_hv : I64 v) :
    Calls Tryd.prog 48 #[.agg #[.slice a rs.length c], .int .i64 u, .int .i64 v] w (RetOwn 2 (r.map (.int .i64)) w) := by
  have RA := hid hr; have HX := hid hx; clear hr hx _hu _hv
  have hn1 := hn.1
  obtain ⟨w0, hw0⟩ : ∃ w0, w0 = (w.alloc (.cells #[.slice a rs.length c] 28)) := ⟨_, rfl⟩
  have B0 := hid (show Below w.heap.size w w0 by rw [hw0]; exact ((Below.refl _ _).alloc (Nat.le_refl _) _))
  have c0 : w0.cell? ⟨w.heap.size, 0, none⟩ = some (.slice a rs.length c) := by rw [hw0]; simp [go_sem]
  replace RA := hid (RA.out.below B0.out (Nat.le_refl _))
  have HW := hid hw0; clear hw0
  by_cases hg : GOk (nums rs)
  · have h1 := hid (show decide (GOk (nums rs)) = true by simpa using hg)
    have HG := hid hg
    have h16 : rs.length ≤ 16 := by have := hg.le; rwa [nums_length] at this
    by_cases hu : 0 ≤ u ∧ u < rs.length
    · have h2 := hid (show decide (0 ≤ u ∧ u < rs.length) = true by simpa using hu)
      by_cases hv : 0 ≤ v ∧ v < rs.length
      · have h3 := hid (show decide (0 ≤ v ∧ v < rs.length) = true by simpa using hv)
        obtain ⟨p, rfl⟩ := Int.eq_ofNat_of_zero_le hu.1
        obtain ⟨m, rfl⟩ := Int.eq_ofNat_of_zero_le hv.1
        have hpl : p < rs.length := by omega
        have hml : m < rs.length := by omega
        have hnl : (nums rs).length = rs.length := nums_length rs
        have hset := setP_all hg
        have hvm : (m : Int) ∈ allL (nums rs).length := (allL_mem _ _).2 (by omega)
        have hdesc := desc_far hset hvm
        have HFR := hid (show fromL (nums rs) (allL rs.length) (m : Int) = farL (nums rs) (allL (nums rs).length) (m : Int) by
          unfold fromL; rw [← hnl, if_pos hvm])
        have HDS := hid (show Desc rs.length (row (nums rs)) (farL (nums rs) (allL (nums rs).length) (m : Int)) by have h := hdesc; generalize farL (nums rs) (allL (nums rs).length) (m : Int) = Z at *; rwa [hnl] at h)
        have HDL := hid (show (farL (nums rs) (allL (nums rs).length) (m : Int)).length = rs.length by rw [farL_len, nums_length])
        have hget : (farL (nums rs) (allL (nums rs).length) (m : Int)).getD p 0 = far (nums rs) (allL (nums rs).length) (m : Int) (p : Int) := farL_get (x := (p : Int)) (by omega) (by omega)
        have HR := hid (show (if 0 ≤ (farL (nums rs) (allL (nums rs).length) (m : Int)).getD p 0 then downL (row (nums rs)) (farL (nums rs) (allL (nums rs).length) (m : Int)) ((farL (nums rs) (allL (nums rs).length) (m : Int)).getD p 0).toNat p else []) = r by
          rw [hget, ← HX.out]
          have hvv : VertP (nums rs) (p : Int) ∧ VertP (nums rs) (m : Int) := ⟨⟨hg, by omega⟩, ⟨hg, by omega⟩⟩
          unfold pathL
          exact (if_pos hvv).symm)
        have H16 := hid (show ∀ d : Nat, (farL (nums rs) (allL (nums rs).length) (m : Int)).getD p 0 = d → d ≤ 16 by
          intro d hd
          have := down_le hdesc (d := d) (u := (p : Int)) (by omega) (by omega) (by rw [Int.toNat_natCast]; exact hd)
          omega)
        clear hu hv HX hg hset hvm hdesc hnl hget
        generalize farL (nums rs) (allL (nums rs).length) (m : Int) = D at *
        go_enter Tryd.func48, Tryd.ntmps48
        go_wp2_with fail
        rw [← HW.out]
        go_wp2_with fail
        refine (specGraphOk_b a rs c _ _ h1.out RA.out hn).mono ?_
        rintro e w1 ⟨rfl, hb⟩
        replace RA := hid (RA.out.below hb (Nat.le_refl _))
        replace B0 := hid (bon B0.out hb)
        replace c0 := cellB hb c0 (Nat.le_refl _)
        clear hb
        go_wp2_with fail
        refine (l1There_b a rs c _ _ _ h2.out hn1).mono ?_
        rintro e w2 ⟨rfl, hb⟩
        replace RA := hid (RA.out.below hb (Nat.le_refl _))
        replace B0 := hid (bon B0.out hb)
        replace c0 := cellB hb c0 (Nat.le_refl _)
        clear hb
        go_wp2_with fail
        refine (l1There_b a rs c _ _ _ h3.out hn1).mono ?_
        rintro e w3 ⟨rfl, hb⟩
        replace RA := hid (RA.out.below hb (Nat.le_refl _))
        replace B0 := hid (bon B0.out hb)
        replace c0 := cellB hb c0 (Nat.le_refl _)
        clear hb
        go_wp2_with fail
        have D3 : Drawn w3 w3.drew := ⟨1, rfl⟩
        have RA3 := hid (RA.out.drawn D3)
        have B3 := hid (B0.out.trans (D3.below _))
        have f0 := dcell D3 c0
        go_region_held3 (fun w' => w'.cell? ⟨w.heap.size, 0, none⟩ = some (.slice a rs.length c)) (first | exact f0 | exact g0 | exact k0 | exact m0) ((first | (go_at_call 69; refine (l1Size_any _ _ _ _ hn1).mono ?_; rintro e w4 ⟨rfl, hb⟩; have g0 := cellB hb f0 (Nat.le_refl _); have RA4 := hid (RA3.out.below hb (Nat.le_refl _)); have B4 := hid (bon B3.out hb); clear hb) | (go_at_call 81; refine (l1All_any _ _ h16).mono ?_; rintro e w5 ⟨pv, rfl, hown, hb⟩; obtain ⟨pa, pc, rfl, hpr, _⟩ := Own.rd hown; have k0 := cellB hb g0 (Nat.le_refl _); have RA5 := hid (RA4.out.below hb (Nat.le_refl _)); have RP5 := hid hpr; have B5 := hid (bon B4.out hb); clear hown hb hpr) | (go_at_call 80; refine (l3From_any _ _ _ _ _ _ _ _ HG.out RA5.out hn RP5.out (by rw [allL_len]; omega) hml).mono ?_; rw [HFR.out]; rintro e w6 ⟨qv, rfl, hown, hb⟩; have m0 := cellB hb k0 (Nat.le_refl _); have OQ := hid hown; have RA6 := hid (RA5.out.below hb (Nat.le_refl _)); have B6 := hid (bon B5.out hb); clear hown hb)))
        clear f0 g0 k0 RA3 RA4 RA5 RP5 B3 B4 B5 RA B0 c0
        obtain ⟨qa, qc, rfl, hqr, _⟩ := Own.rd OQ.out
        have RD := hid hqr; clear hqr OQ
        rw [HDL.out]
        obtain ⟨db, dp, rfl, cu0⟩ := RD.out p (by rw [HDL.out]; exact hpl)
        rw [← getD_eq D p (by rw [HDL.out]; exact hpl)] at cu0
        have hpi : (p : Int) < (rs.length : Int) := by omega
        by_cases hneg : D.getD p 0 < 0
        · have HRR := hid (show [] = r by have := HR.out; rw [if_neg (by omega)] at this; exact this)
          clear HR H16
          generalize D.getD p 0 = e at *
          go_wp2
          go_ret
          rw [← HRR.out]
          exact ⟨_, rfl, (own_new 2 _ [] (by decide)).base B6.out.size, B6.out.trans ((alloc_below _ _).mono B6.out.size)⟩
        · obtain ⟨d0, hd0⟩ := Int.eq_ofNat_of_zero_le (show 0 ≤ D.getD p 0 by omega)
          have hd16 := H16.out d0 hd0
          have HRR := hid (show downL (row (nums rs)) D d0 (p : Int) = r by have := HR.out; rw [if_pos (by omega), hd0] at this; exact this)
          have HD0 := hid hd0
          rw [hd0] at hneg cu0
          clear HR H16 hd0
          go_wp2_with fail
          refine (l3Down_any a rs c _ D _ p d0 _ HDS.out HDL.out RA6.out hn RD.out hpl HD0.out hd16).mono ?_
          rw [HRR.out]
          rintro e w7 ⟨qv, rfl, hown, hb⟩
          have OQ := hid (hown.base B6.out.size)
          have B7 := hid (bon B6.out hb)
          clear hown hb
          go_wp2
          go_ret
          exact ⟨_, rfl, OQ.out, B7.out⟩
      · have h3 := hid (show decide (0 ≤ v ∧ v < rs.length) = false by simpa using hv)
        have HFIN := hid (show [] = r by rw [← HX.out, pathL_no]; rintro ⟨_, _, h⟩; rw [nums_length] at h; exact hv h)
        clear hu hv HX hg
        go_enter Tryd.func48, Tryd.ntmps48
        go_wp2_with fail
        rw [← HW.out]
        go_wp2_with fail
        refine (specGraphOk_b a rs c _ _ h1.out RA.out hn).mono ?_
        rintro e w4 ⟨rfl, hb⟩
        replace RA := hid (RA.out.below hb (Nat.le_refl _))
        replace B0 := hid (bon B0.out hb)
        replace c0 := cellB hb c0 (Nat.le_refl _)
        clear hb
        go_wp2_with fail
        refine (l1There_b a rs c _ _ _ h2.out hn1).mono ?_
        rintro e w5 ⟨rfl, hb⟩
        replace RA := hid (RA.out.below hb (Nat.le_refl _))
        replace B0 := hid (bon B0.out hb)
        replace c0 := cellB hb c0 (Nat.le_refl _)
        clear hb
        go_wp2_with fail
        refine (l1There_b a rs c _ _ _ h3.out hn1).mono ?_
        rintro e w6 ⟨rfl, hb⟩
        replace RA := hid (RA.out.below hb (Nat.le_refl _))
        replace B0 := hid (bon B0.out hb)
        replace c0 := cellB hb c0 (Nat.le_refl _)
        clear hb
        go_wp2
        go_ret
        rw [← HFIN.out]
        exact ⟨_, rfl, (own_new 2 _ [] (by decide)).base B0.out.size, B0.out.trans ((alloc_below _ _).mono B0.out.size)⟩
    · have h2 := hid (show decide (0 ≤ u ∧ u < rs.length) = false by simpa using hu)
      have HFIN := hid (show [] = r by rw [← HX.out, pathL_no]; rintro ⟨⟨_, h⟩, _⟩; rw [nums_length] at h; exact hu h)
      clear hu HX hg
      go_enter Tryd.func48, Tryd.ntmps48
      go_wp2_with fail
      rw [← HW.out]
      go_wp2_with fail
      refine (specGraphOk_b a rs c _ _ h1.out RA.out hn).mono ?_
      rintro e w7 ⟨rfl, hb⟩
      replace RA := hid (RA.out.below hb (Nat.le_refl _))
      replace B0 := hid (bon B0.out hb)
      replace c0 := cellB hb c0 (Nat.le_refl _)
      clear hb
      go_wp2_with fail
      refine (l1There_b a rs c _ _ _ h2.out hn1).mono ?_
      rintro e w8 ⟨rfl, hb⟩
      replace RA := hid (RA.out.below hb (Nat.le_refl _))
      replace B0 := hid (bon B0.out hb)
      replace c0 := cellB hb c0 (Nat.le_refl _)
      clear hb
      go_wp2
      go_ret
      rw [← HFIN.out]
      exact ⟨_, rfl, (own_new 2 _ [] (by decide)).base B0.out.size, B0.out.trans ((alloc_below _ _).mono B0.out.size)⟩
  · have h1 := hid (show decide (GOk (nums rs)) = false by simpa using hg)
    have HFIN := hid (show [] = r by rw [← HX.out, pathL_no]; rintro ⟨⟨h, _⟩, _⟩; exact hg h)
    clear HX hg
    go_enter Tryd.func48, Tryd.ntmps48
    go_wp2_with fail
    rw [← HW.out]
    go_wp2_with fail
    refine (specGraphOk_b a rs c _ _ h1.out RA.out hn).mono ?_
    rintro e w9 ⟨rfl, hb⟩
    replace RA := hid (RA.out.below hb (Nat.le_refl _))
    replace B0 := hid (bon B0.out hb)
    replace c0 := cellB hb c0 (Nat.le_refl _)
    clear hb
    go_wp2
    go_ret
    rw [← HFIN.out]
    exact ⟨_, rfl, (own_new 2 _ [] (by decide)).base B0.out.size, B0.out.trans ((alloc_below _ _).mono B0.out.size)⟩
end Go.Proofs.YtlnhfafnhclolaaDoor
