/- An order drawn by the reference's cursor. -/
import Derived.Test.YtccohcdgcpcbjaaDoorDrwS
namespace Go.Proofs.YtccohcdgcpcbjaaDoor
open Go.RowKit
section
theorem own_some {e : TypeId} {w : World} {B n c : Nat} {a : Option Addr} {xs : List Value} (h : Own e w B (.slice a n c) xs) (hl : 0 < xs.length) : ∃ b, a = some ⟨b, 0, none⟩ ∧ B ≤ b ∧ n = xs.length ∧ xs.length ≤ c := by
  rcases h.form with ⟨_, h2⟩ | ⟨g, cap, spare, h1, h2, _, h4, _⟩
  · subst h2; simp at hl
  · obtain ⟨rfl, rfl, rfl⟩ := slice_inj h1
    exact ⟨g, rfl, h2, rfl, by omega⟩
theorem ord_len {M T O : List Int} {y : Int} {n : Nat} (h1 : T.length + 1 = M.length) (h2 : M.length + O.length = n) : T.length + (O ++ [y]).length = n := by
  rw [List.length_append]
  simp only [List.length_cons, List.length_nil]
  omega
set_option maxRecDepth 100000 in
set_option maxHeartbeats 8000000 in
theorem l1DrawOrder_any (g : Nat) (a : Option Addr) (n cc : Nat) (w : World) (hc : Cur w g) (hn : n ≤ 17) :
    Calls Tryd.prog 37 #[.pointer (some ⟨g, 0, none⟩), .agg #[.slice a n cc]] w (SPost g 18 w) := by
  have hgw := hc.lt
  have CU := hid hc
  clear hc
  obtain ⟨w0, hw0⟩ : ∃ w0, w0 = (w.alloc (.cells #[.slice a n cc] 24)) := ⟨_, rfl⟩
  have B0 := hid (show Below w.heap.size w w0 by rw [hw0]; exact ((Below.refl _ _).alloc (Nat.le_refl _) _))
  have c0 : w0.cell? ⟨w.heap.size, 0, none⟩ = some (.slice a n cc) := by rw [hw0]; simp [go_sem]
  have HW := hid hw0; clear hw0
  have hsz0 : w0.heap.size = w.heap.size + 1 := by rw [HW.out]; simp
  have Kw := hid (Kept.of_below (fun k => k = g) B0.out)
  have CU0 := hid (CU.out.past B0.out (Nat.le_refl _))
  have hszw : w.heap.size < w0.heap.size := by omega
  clear CU B0 hsz0
  go_enter Tryd.func37, Tryd.ntmps37
  go_wp2_with fail
  rw [← HW.out]
  refine (l1All_len n _ hn).mono ?_
  rintro e w1 ⟨la, L, lc, rfl, hll, hlo, hb⟩
  have hs1 := hb.size
  have HO := hid (show Own 2 (w1.alloc (.cells #[] 2)) w0.heap.size (.slice (some ⟨w1.heap.size, 0, none⟩) 0 0) (([] : List Int).map (.int .i64)) from (own_new 2 w1 [] (by decide)).base hs1)
  have HB := hid (alloc_below w1 (.cells #[] 2))
  have HL := hid (hlo.past HB.out (Nat.le_refl _))
  have CU1 := hid ((CU0.out.past hb (Nat.le_refl _)).past HB.out (Nat.le_refl _))
  have KP1 := hid ((Kept.of_below (fun k => k = g) hb).trans (Kept.of_below _ HB.out))
  have HNE := hid (show (Value.slice la n lc).ownBlock = none ∨ (Value.slice la n lc).ownBlock ≠ (Value.slice (some ⟨w1.heap.size, 0, none⟩) 0 0).ownBlock from by
    right
    intro e
    have := hlo.lt w1.heap.size (by rw [e]; simp [Value.ownBlock])
    omega)
  have HLL := hid hll
  clear hb hlo CU0 hll
  have C00 := hid c0
  clear c0
  go_wp2
  generalize w1.alloc (.cells #[] 2) = w2 at *
  generalize w1.heap.size = sz1 at *
  go_loopw [5, 6] (fun l o wr => ∃ (L O : List Int), L.length + O.length = n ∧ Own 2 wr w0.heap.size l (L.map (.int .i64)) ∧ Own 2 wr w0.heap.size o (O.map (.int .i64)) ∧ (l.ownBlock = none ∨ l.ownBlock ≠ o.ownBlock) ∧ Cur wr g ∧ Kept (fun k => k = g) w0 wr) (fun l _ _ => lenV l)
  case atStart => exact ⟨L, [], by simpa using HLL.out, HL.out, HO.out, HNE.out, CU1.out, KP1.out⟩
  case round =>
    clear HO CU1 HB HL HNE KP1 HLL
    obtain ⟨M, O, hmo, hm, ho, hne, hcu, hkp⟩ := hrel
    have OM := hid hm; have OO := hid ho; have CU := hid hcu; have KP := hid hkp; have HNE := hid hne; have HMO := hid hmo
    have hsr := hkp.size
    obtain ⟨ma, mc, hmv, hmr, _⟩ := hm.rd
    subst hmv
    obtain ⟨oa, oc, hov, _⟩ := ho.rd
    subst hov
    have RM := hid hmr
    have hol : (O.map (Value.int .i64)).length ≤ 17 := by rw [List.length_map]; omega
    have hml : M.length ≤ 17 := by omega
    have hol1 : O.length ≤ 17 := by omega
    clear hmo
    clear hm ho hcu hkp hne hmr
    obtain ⟨wj, rfl⟩ : ∃ z, z = wr := ⟨_, rfl⟩
    by_cases hpos : 0 < M.length
    · have hpi : (M.length : Int) > 0 := by omega
      obtain ⟨mb, rfl, hmb, hleft, hmc⟩ := own_some OM.out (by rw [List.length_map]; exact hpos)
      rw [List.length_map] at hmc
      clear hleft
      go_wp2_with fail
      refine (l1Below_any g M.length _ _ rfl CU.out hpos (by omega)).mono ?_
      rintro e w3 ⟨k, rfl, hk, hc, hk3⟩
      have CU3 := hid hc
      have KP3 := hid (KP.out.trans hk3)
      have OM3 := hid (OM.out.keptS hk3 (fun j hj hs => by have := OM.out.ge j hj; omega))
      have OO3 := hid (OO.out.keptS hk3 (fun j hj hs => by have := OO.out.ge j hj; omega))
      have hs3 := KP3.out.size
      have hki : (k : Int) < (M.length : Int) := by omega
      obtain ⟨mb', mo', hmb', cm⟩ := (ownL_rd OM3.out) k hk
      obtain ⟨rfl, rfl⟩ : mb = mb' ∧ 0 = mo' := by simp at hmb'; exact hmb'
      rw [Nat.zero_add] at cm
      clear hc hk3 CU KP OM OO RM hmb'
      generalize M[k] = y at *
      go_wp2_with (at_builtin; refine law_pushD tI64 _ rfl _ _ rfl w0.heap.size _ (O.map (.int .i64)) rfl OO3.out _ _ rfl ?c0 rfl ?c1 ?c2 ?_)
      try (case c0 => simp)
      try (case c1 => exact Nat.lt_of_le_of_lt hol (by decide))
      try (case c2 => exact hs3)
      intro v4 w4 h1 h2 h3
      have OO4 := hid (show Own 2 w4 w0.heap.size v4 ((O ++ [y]).map (.int .i64)) by rw [List.map_append]; exact h1)
      have HBB := hid (grown_below h2 hs3 (fun g hg => OO3.out.ge g hg))
      have CU4 := hid (CU3.out.belowB HBB.out (by omega))
      have KP4 := hid (KP3.out.belowT HBB.out (Nat.le_refl _))
      have OM4 := hid (OM3.out.kept h2 HNE.out)
      have hs4 := KP4.out.size
      have RM4 := hid (ownL_rd OM4.out)
      clear h1 h2 h3 CU3 KP3 OM3 OO3 HBB cm HNE
      obtain ⟨va, vc, hv4, _⟩ := OO4.out.rd
      subst hv4
      have hol2 : (O ++ [y]).length = O.length + 1 := by simp
      rw [hol2] at OO4
      have hkc : k ≤ mc := by omega
      have htl : (M.take k).length = k := by rw [List.length_take]; omega
      have hkm : k + 1 ≤ M.length := hk
      have D5 : Drawn w4 w4.drew := ⟨1, rfl⟩
      have RM5 := hid (RM4.out.drawn D5)
      have OO5 := hid (OO4.out.past (D5.below w4.heap.size) (Nat.le_refl _))
      have CU5 := hid (CU4.out.past (D5.below w4.heap.size) (Nat.le_refl _))
      have KP5 := hid (KP4.out.trans (Kept.of_below _ (D5.below w4.heap.size)))
      have hs5 : w0.heap.size ≤ w4.drew.heap.size := hs4
      clear RM4 OM4 CU4 KP4
      obtain ⟨k1, hk1⟩ : ∃ k1, k1 = k + 1 := ⟨_, rfl⟩
      have hwr : IntKind.i64.wrap ((k : Int) + 1) = (k1 : Int) := by rw [IntKind.wrap_i64]; omega
      have hk1m : k1 ≤ M.length := by omega
      have hk1i : (k1 : Int) ≤ (M.length : Int) := by omega
      have hk10 : (0 : Int) ≤ (k1 : Int) := by omega
      have htd : (M.take k ++ M.drop k1).length + 1 = M.length := by rw [List.length_append, List.length_take, List.length_drop]; omega
      have hdl : (M.drop k1).length = M.length - k1 := List.length_drop
      have hom : ((M.take k).map (Value.int .i64)).length + (M.length - k1) ≤ 1099511627776 := by rw [List.length_map, htl]; omega
      obtain ⟨of, hof, hrd⟩ : ∃ of, (if mc = k1 then (some ⟨mb, 0, none⟩ : Option Addr) else some ⟨mb, k1, none⟩) = some ⟨mb, of, none⟩ ∧ Rd (Value.int .i64) w4.drew (some ⟨mb, of, none⟩) (M.drop k1) := by
        by_cases hmk : mc = k1
        · refine ⟨0, by rw [if_pos hmk], ?_⟩
          have h0 : M.drop k1 = [] := List.eq_nil_of_length_eq_zero (by rw [List.length_drop]; omega)
          rw [h0]; exact Rd.nil _ _ _
        · refine ⟨k1, by rw [if_neg hmk], ?_⟩
          have h := RM5.out.drop k1
          rwa [Nat.zero_add] at h
      have RD5 := hid hrd
      have HTD := hid htd; have HDL := hid hdl
      clear hk1 htd hdl hrd
      go_wp2_with fail
      go_region_law ((first | (go_simp; go_at_call 60; refine (l1Copy_any2 (some ⟨mb, 0, none⟩) (M.take k) k mc _ htl (RM5.out.take k) (by omega) (fun h => by cases h)).mono ?_; rintro e w6 ⟨cv, rfl, hown, hb⟩; have OC6 := hid hown; have B6 := hid hb; have hs6 := hb.size; have RD6 := hid (RD5.out.below hb (Nat.le_refl _)); clear hown hb) | (refine step_appD tI64 _ (by rfl) _ _ (by rfl) (Value.int .i64) w4.drew.heap.size _ ((M.take k).map (.int .i64)) (by rfl) OC6.out mb of _ _ (M.drop k1) (by rfl) HDL.out RD6.out (fun y _ => rfl) hom hs6 ?_; intro v7 w7 h1 h2; have OM7 := hid (show Own 2 w7 w4.drew.heap.size v7 ((M.take k ++ M.drop k1).map (.int .i64)) by rw [List.map_append]; exact h1); have HB7 := hid (grown_below h2 hs6 (fun j hj => OC6.out.ge j hj)); clear h1 h2)))
      all_goals (
        have OO7 := hid ((OO5.out.past B6.out (Nat.le_refl _)).below HB7.out (fun j hj => OO5.out.lt j hj))
        have CU7 := hid ((CU5.out.past B6.out (Nat.le_refl _)).belowB HB7.out (by have := CU5.out.lt; omega))
        have KP7 := hid ((KP5.out.trans (Kept.of_below _ B6.out)).belowT HB7.out hs5)
        have HN7 := hid (show v7.ownBlock = none ∨ v7.ownBlock ≠ (Value.slice va (O.length + 1) vc).ownBlock from by
          cases hv7 : v7.ownBlock with
          | none => exact .inl rfl
          | some j =>
            right
            intro e
            have h1 := OM7.out.ge j hv7
            have h2 := OO5.out.lt j e.symm
            omega)
        have OMB := hid (OM7.out.base hs5)
        have HTO := hid (ord_len (y := y) HTD.out HMO.out)
        obtain ⟨ra, rc, hrv, hrest⟩ := OMB.out.rd
        clear hrest
        subst hrv
        have HLT := hid (show lenV (Value.slice ra (M.take k ++ M.drop k1).length rc) < M.length from by show (M.take k ++ M.drop k1).length < _; have := HTD.out; omega)
        clear OM7 OC6 B6 HB7 RD6 RD5 CU5 KP5 OO5 RM5
        generalize M.take k ++ M.drop k1 = T at *
        go_wp2
        go_simp
        exact ⟨⟨T, _, HTO.out, OMB.out, OO7.out, HN7.out, CU7.out, KP7.out⟩, HLT.out⟩)
    · have hm0 : M.length = 0 := by omega
      have hmi : ¬ (M.length : Int) > 0 := by omega
      go_wp2_with fail
      refine (l1Once_any g 15 _ CU.out (by decide) (by decide)).mono ?_
      rintro e w3 ⟨t, rfl, hc, hk3⟩
      have CU3 := hid hc
      have KP3 := hid (KP.out.trans hk3)
      have OO3 := hid (OO.out.keptS hk3 (fun j hj hs => by have := OO.out.ge j hj; omega))
      clear hc hk3 CU KP OO OM RM HNE
      cases t
      · go_wp2
        go_ret
        exact ⟨oa, O, oc, rfl, OO3.out.base (by omega), by omega, CU3.out, Kw.out.trans KP3.out⟩
      · by_cases hop : 0 < O.length
        · have hopi : (O.length : Int) > 0 := by omega
          have hopd : decide (0 < O.length) = true := decide_eq_true hop
          obtain ⟨ob, rfl, hob, hleft, hoc⟩ := own_some OO3.out (by rw [List.length_map]; exact hop)
          clear hleft hoc
          go_wp2_with fail
          refine (l1Below_any g O.length _ _ rfl CU3.out hop (by omega)).mono ?_
          rintro e w4 ⟨x, rfl, hx, hc, hk4⟩
          have CU4 := hid hc
          have KP4 := hid (KP3.out.trans hk4)
          have OO4 := hid (OO3.out.keptS hk4 (fun j hj hs => by have := OO3.out.ge j hj; omega))
          clear hc hk4 CU3 KP3 OO3
          go_wp2_with fail
          refine (l1From_any g _ CU4.out).mono ?_
          rintro e w5 ⟨z, rfl, hc, hk5⟩
          have CU5 := hid hc
          have KP5 := hid (KP4.out.trans hk5)
          have OO5 := hid (OO4.out.keptS hk5 (fun j hj hs => by have := OO4.out.ge j hj; omega))
          have hxi : (x : Int) < (O.length : Int) := by omega
          have hxm : x < (O.map (Value.int .i64)).length := by rw [List.length_map]; exact hx
          have cx := OO5.out.cell x hxm
          have fx := OO5.out.free x
          have OO6 := hid (show Own 2 (w5.setCell ⟨ob, x, none⟩ (.int .i64 z)) w0.heap.size (.slice (some ⟨ob, 0, none⟩) O.length oc) ((O.set x z).map (.int .i64)) by
            rw [List.map_set]; exact OO5.out.store x hxm (.int .i64 z))
          have CU6 := hid (CU5.out.setc (p := ⟨ob, x, none⟩) (by show g < ob; omega) (.int .i64 z))
          have KP6 := hid (KP5.out.setCell_new (p := ⟨ob, x, none⟩) hob (.int .i64 z))
          have HSL := hid (show (O.set x z).length = O.length from List.length_set)
          clear hc hk5 CU4 KP4 OO4 OO5 KP5 CU5
          go_wp2
          go_ret
          exact ⟨some ⟨ob, 0, none⟩, O.set x z, oc, by rw [HSL.out]; rfl, by rw [HSL.out]; exact OO6.out.base (by omega), by rw [HSL.out]; omega, CU6.out, Kw.out.trans KP6.out⟩
        · have hopi : ¬ (O.length : Int) > 0 := by omega
          have hopd : decide (0 < O.length) = false := decide_eq_false hop
          go_wp2
          go_ret
          exact ⟨oa, O, oc, rfl, OO3.out.base (by omega), by omega, CU3.out, Kw.out.trans KP3.out⟩
end
end Go.Proofs.YtccohcdgcpcbjaaDoor
