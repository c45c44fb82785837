/- The least path down the distances: the program's. -/
import Derived.Test.YtlnhfafnhclolaaDoorPathI
import Derived.Test.YtlnhfafnhclolaaDoorLeft
namespace Go.Proofs.YtlnhfafnhclolaaDoor
open Go.RowKit
def OptPost (x : Option (List Int)) (w : World) (E : Ending) (w' : World) : Prop :=
  (x = none ∧ E = .returned (.slice none 0 0) ∧ Below w.heap.size w w') ∨ ∃ l, x = some l ∧ RetOwn 3 (l.map (.int .i64)) w E w'
def rowsIn (A : List Nat) (t : Nat) (x : Int) : List Int := mems (A.getD x.toNat 0 &&& t)
def pathX (A : List Nat) (t : Nat) (D : List Int) (u : Nat) : Option (List Int) := if D.getD u 0 < 0 then none else some (downL (rowsIn A t) D (D.getD u 0).toNat u)
set_option maxRecDepth 100000 in
set_option maxHeartbeats 2000000 in
theorem pathOf_any (a : Option Addr) (A : List Nat) (c n u0 v t : Nat) (D : List Int) (x : Option (List Int)) (w : World) (hx : pathX A t D u0 = x) (hlen : A.length = n)
    (hD : ∀ D' : List Int, D'.length = n → (∀ u, u < n → (∃ d : Nat, D'.getD u 0 = d ∧ DistA A t v u d) ∨ (D'.getD u 0 = -1 ∧ ¬ Leads A t v u)) → D' = D) (hDl : D.length = n)
    (hds : Desc n (rowsIn A t) D) (h0 : ∀ x, x < n → (D.getD x 0 = 0 ↔ x = v)) (h16 : ∀ x, x < n → D.getD x 0 ≤ 16)
    (hT : TabOk w) (hr : Rd maskF w a A) (hA : ∀ x ∈ A, x < 65536) (hAn : n ≤ 16) (hu0 : u0 < n) (hv : v < n) (ht : t < 2 ^ n) :
    Calls Tryd.prog 93 #[.slice a n c, .int .i64 u0, .int .i64 v, .int .u32 t] w (OptPost x w) := by
  have RT := hid hT; have RA := hid hr; have HA := hid hA; have HLN := hid hlen; have HX := hid hx
  have HDS := hid hds; have H0 := hid h0; have H16 := hid h16; have HDL := hid hDl
  have HDI := hid (show Calls Tryd.prog 84 #[.slice a n c, .int .i64 v, .int .u32 t] w fun e w' => ∃ (o : Value), e = .returned o ∧ Own 3 w' w.heap.size o (D.map (.int .i64)) ∧ Below w.heap.size w w' by
    subst hlen
    refine (distances_any a A c v t w hT hr hA hAn hv ht).mono ?_
    rintro e w' ⟨D', o, rfl, hown, hl, hf, hb⟩
    rw [hD D' hl hf] at hown
    exact ⟨o, rfl, hown, hb⟩)
  have ht16 : t < 65536 := Nat.lt_of_lt_of_le ht (Nat.pow_le_pow_right (n := 2) (i := n) (j := 16) (by decide) hAn)
  have B0 := hid (Below.refl w.heap.size w)
  clear hT hr hA hlen hx hds h0 h16 hD hDl ht
  have hu0i : (u0 : Int) < (n : Int) := by omega
  go_enter Tryd.func93, Tryd.ntmps93
  go_wp2_with fail
  refine HDI.out.mono ?_
  rintro e wd ⟨o, rfl, hown, hb⟩
  obtain ⟨pa, pc, rfl, hpr, _⟩ := Own.rd hown
  rw [HDL.out]
  have RD0 := hid hpr
  have RT1 := hid (RT.out.below hb (Nat.le_refl _)); have RA1 := hid (RA.out.below hb (Nat.le_refl _)); have B1 := hid (bon B0.out hb)
  have hw01 : w.heap.size ≤ wd.heap.size := hb.size
  clear hpr hown hb HDI RT RA B0
  have hD0 := H16.out u0 hu0
  obtain ⟨db, dp, rfl, cu0⟩ := RD0.out u0 (by rw [HDL.out]; exact hu0)
  rw [← getD_eq D u0 (by rw [HDL.out]; exact hu0)] at cu0
  by_cases hneg : D.getD u0 0 < 0
  · have HXN := hid (show x = none by rw [← HX.out]; unfold pathX; rw [if_pos hneg])
    generalize D.getD u0 0 = e at *
    go_wp2
    go_ret
    exact .inl ⟨HXN.out, rfl, B1.out⟩
  · obtain ⟨d0, hd0⟩ := Int.eq_ofNat_of_zero_le (show 0 ≤ D.getD u0 0 by omega)
    have HXS := hid (show x = some (downL (rowsIn A t) D d0 (u0 : Int)) by rw [← HX.out]; unfold pathX; rw [if_neg hneg, hd0]; rfl)
    rw [hd0] at cu0 hneg hD0
    have HD0 := hid hd0
    clear hd0 HX
    have HO := hid (show Own 3 (wd.alloc (.cells #[.int .i64 (u0 : Int)] 3)) wd.heap.size (.slice (some ⟨wd.heap.size, 0, none⟩) 1 1) (([] ++ [(u0 : Int)]).map (Value.int .i64)) from own_new 3 wd [.int .i64 (u0 : Int)] (by simp [maxLen]))
    have HE0 := hid (alloc_below wd (.cells #[.int .i64 (u0 : Int)] 3))
    go_wp2
    go_loopw [1, 10, 12] (fun uv o _ wr => ∃ (u d : Nat) (pre : List Int), uv = .int .i64 u ∧ u < n ∧ D.getD u 0 = (d : Int) ∧ pre.length + d = d0 ∧ Own 3 wr wd.heap.size o ((pre ++ [(u : Int)]).map (.int .i64)) ∧ pre ++ downL (rowsIn A t) D d u = downL (rowsIn A t) D d0 u0 ∧ Below wd.heap.size wd wr) (fun uv _ _ _ => (D.getD (intOf uv).toNat 0).toNat)
    case atStart => exact ⟨u0, d0, [], rfl, hu0, HD0.out, by simp, HO.out, rfl, HE0.out⟩
    case round =>
      obtain ⟨u, dd, pre, rfl, hu, hdu, hpl, ho, hT, hb⟩ := hrel
      have OM := hid ho; have HT := hid hT; have BL := hid hb; have HDU := hid hdu; clear ho hT hdu
      replace RT1 := hid (RT1.out.below hb (Nat.le_refl _))
      replace RA1 := hid (RA1.out.below hb (Nat.le_refl _))
      replace RD0 := hid (RD0.out.below hb (Nat.le_refl _))
      replace B1 := hid (bon B1.out hb)
      clear hb
      have hui : (u : Int) < (n : Int) := by omega
      obtain ⟨db', dp', hda, cu⟩ := RD0.out u (by rw [HDL.out]; exact hu)
      obtain ⟨rfl, rfl⟩ : db = db' ∧ dp = dp' := by simp at hda; exact hda
      clear hda
      rw [← getD_eq D u (by rw [HDL.out]; exact hu), HDU.out] at cu
      have h0u := H0.out u hu
      rw [HDU.out] at h0u
      by_cases huv : u = v
      · have hdd0 : dd = 0 := by have := h0u.2 huv; omega
        have dne : ((u : Int) != (v : Int)) = false := by rw [huv]; simp
        have hTT := HT.out
        rw [hdd0] at hTT
        have HT3 := hid (show pre ++ [(u : Int)] = downL (rowsIn A t) D d0 (u0 : Int) from hTT)
        clear hTT
        go_wp2
        go_ret
        refine .inr ⟨_, HXS.out, _, rfl, ?_, B1.out⟩
        rw [← HT3.out]
        exact OM.out.base hw01
      · have hpos : 0 < dd := by
          apply Classical.byContradiction
          intro h
          exact huv (h0u.1 (by omega))
        have dne : ((u : Int) != (v : Int)) = true := by simp; omega
        obtain ⟨ab, ao, rfl, cv⟩ := RA1.out u (by rw [HLN.out]; exact hu)
        have hAv := HA.out _ (List.getElem_mem (show u < A.length by rw [HLN.out]; exact hu))
        have hRU : rowsIn A t (u : Int) = mems (A[u]'(by rw [HLN.out]; exact hu) &&& t) := by
          unfold rowsIn
          rw [Int.toNat_natCast, List.getD_eq_getElem?_getD, List.getElem?_eq_getElem (show u < A.length by rw [HLN.out]; exact hu)]; rfl
        have HDN := hid (HDS.out.down u (by omega) (by omega) (dd - 1) (by rw [Int.toNat_natCast, HDU.out]; omega))
        have HRG := hid (HDS.out.rng u (by omega) (by omega))
        have HT2 := hid (show (pre ++ [(u : Int)]) ++ downL (rowsIn A t) D (dd - 1) (hop (rowsIn A t (u : Int)) D ((dd - 1 : Nat) : Int)) = downL (rowsIn A t) D d0 u0 by
          rw [← HT.out, List.append_assoc]
          rw [show downL (rowsIn A t) D dd (u : Int) = downL (rowsIn A t) D ((dd - 1) + 1) (u : Int) by rw [Nat.sub_add_cancel hpos], downL_succ]; rfl)
        rw [hRU] at HDN HRG HT2
        unfold maskF at cv
        have hPLl : (pre ++ [(u : Int)]).length + dd = d0 + 1 := by simp; omega
        clear HT h0u hRU
        generalize A[u]'(by rw [HLN.out]; exact hu) = X at *
        have hand := u32_and_nat X t (by omega) (by omega)
        have hMX : X &&& t < 65536 := Nat.lt_of_le_of_lt Nat.and_le_left hAv
        generalize X &&& t = MX at *
        generalize pre ++ [(u : Int)] = PL at *
        have BS := hid (Below.refl wr.heap.size wr)
        go_wp2_with fail
        refine (list_any MX _ RT1.out hMX).mono ?_
        rintro e w1 ⟨lv, rfl, ho, hb⟩
        replace RT1 := hid (RT1.out.below hb (Nat.le_refl _))
        replace RA1 := hid (RA1.out.below hb (Nat.le_refl _))
        replace RD0 := hid (RD0.out.below hb (Nat.le_refl _))
        replace B1 := hid (bon B1.out hb)
        replace OM := hid (OM.out.past hb (Nat.le_refl _))
        replace BL := hid (bon BL.out hb)
        replace cu := cellB hb cu (Nat.le_refl _)
        replace cv := cellB hb cv (Nat.le_refl _)
        replace BS := hid (bon BS.out hb)
        clear hb
        obtain ⟨la, lc, rfl, hlr, _, _, _, hlb⟩ := ho.rd
        have RL := hid hlr; clear hlr ho hlb
        have hml := mems_len MX
        have BS2 := hid (Below.refl w1.heap.size w1)
        clear BS
        go_wp2
        go_loopw [1, 12, 35] (fun uv _ x wq => ∃ k : Nat, k ≤ (mems MX).length ∧ x = .int .i64 k ∧ uv = .int .i64 u ∧ (∀ j (hj : j < (mems MX).length), j < k → D.getD (mems MX)[j].toNat 0 ≠ ((dd - 1 : Nat) : Int)) ∧ Below w1.heap.size w1 wq) (fun _ _ x _ => (mems MX).length - (intOf x).toNat)
        case atStart => exact ⟨0, Nat.zero_le _, rfl, rfl, fun j _ hj => absurd hj (Nat.not_lt_zero j), Below.refl _ _⟩
        case round =>
          obtain ⟨k, hk, rfl, rfl, hno, hb⟩ := hrel
          have HNO := hid hno; have BQ := hid hb; clear hno
          replace RT1 := hid (RT1.out.below hb (Nat.le_refl _))
          replace RA1 := hid (RA1.out.below hb (Nat.le_refl _))
          replace RD0 := hid (RD0.out.below hb (Nat.le_refl _))
          replace B1 := hid (bon B1.out hb)
          replace OM := hid (OM.out.past hb (Nat.le_refl _))
          replace BL := hid (bon BL.out hb)
          replace cu := cellB hb cu (Nat.le_refl _)
          replace cv := cellB hb cv (Nat.le_refl _)
          replace RL := hid (RL.out.below hb (Nat.le_refl _))
          clear hb
          by_cases hlt : k < (mems MX).length
          · obtain ⟨pb, po, hpa, ck⟩ := RL.out k hlt
            have hki : (k : Int) < ((mems MX).length : Int) := by omega
            have hx := HRG.out _ (List.getElem_mem hlt)
            have HAT := hid (fun (h : D.getD (mems MX)[k].toNat 0 = ((dd - 1 : Nat) : Int)) => hop_at hlt (fun j hj => HNO.out j (by omega) hj) h)
            have HNX := hid (fun (h : D.getD (mems MX)[k].toNat 0 ≠ ((dd - 1 : Nat) : Int)) => (show ∀ j (hj : j < (mems MX).length), j < k + 1 → D.getD (mems MX)[j].toNat 0 ≠ ((dd - 1 : Nat) : Int) from fun j hj hjk => by
              by_cases e : j = k
              · subst e; exact h
              · exact HNO.out j hj (by omega)))
            have hatk := at_slice tIntsL hpa (mems MX).length lc k hlt
            have HPA := hid hpa; clear hpa
            generalize (mems MX)[k] = y at *
            obtain ⟨m, rfl⟩ := Int.eq_ofNat_of_zero_le hx.1
            have hm : m < n := by omega
            have hmi : (m : Int) < (n : Int) := by omega
            obtain ⟨db', dp', hda, cm⟩ := RD0.out m (by rw [HDL.out]; exact hm)
            obtain ⟨rfl, rfl⟩ : db = db' ∧ dp = dp' := by simp at hda; exact hda
            clear hda
            rw [← getD_eq D m (by rw [HDL.out]; exact hm)] at cm
            rw [Int.toNat_natCast] at HAT HNX
            by_cases hc : D.getD m 0 = ((dd - 1 : Nat) : Int)
            · have dq : (D.getD m 0 == ((dd : Int) - 1)) = true := by rw [hc]; simp; omega
              have HH := hid (HAT.out hc)
              have HCM := hid hc
              clear HAT HNX hc
              generalize hee : D.getD m 0 = e at *
              have HEM := hid hee; clear hee
              go_wp2
              have qcu := fun (p : Bel _) => cellB p.h cu (Nat.le_refl _)
              have qcv := fun (p : Bel _) => cellB p.h cv (Nat.le_refl _)
              have qck := fun (p : Bel _) => cellB p.h ck (Nat.le_refl _)
              have qcm := fun (p : Bel _) => cellB p.h cm (Nat.le_refl _)
              refine wp_quiet_b (by kernel_rfl) (by kernel_rfl) ?_
              repeat (go_big_quiet_step (fail))
              refine wpQuiet_nil ?_
              intro _ hw'
              obtain ⟨⟨w2, hb⟩, rfl⟩ := hw'
              clear qcu qcv qck qcm
              replace RT1 := hid (RT1.out.below hb (Nat.le_refl _))
              replace RA1 := hid (RA1.out.below hb (Nat.le_refl _))
              replace RD0 := hid (RD0.out.below hb (Nat.le_refl _))
              replace B1 := hid (bon B1.out hb)
              replace OM := hid (OM.out.past hb (Nat.le_refl _))
              replace BL := hid (bon BL.out hb)
              replace BQ := hid (bon BQ.out hb)
              replace cu := cellB hb cu (Nat.le_refl _)
              replace cv := cellB hb cv (Nat.le_refl _)
              replace RL := hid (RL.out.below hb (Nat.le_refl _))
              replace ck := cellB hb ck (Nat.le_refl _)
              replace cm := cellB hb cm (Nat.le_refl _)
              clear hb
              have hszz := BL.out.size
              have HC := hid (show (PL ++ [(m : Int)]).map (Value.int .i64) = PL.map (Value.int .i64) ++ [.int .i64 (m : Int)] by rw [List.map_append]; rfl)
              have hDl : (PL.map (Value.int .i64)).length ≤ 17 := by rw [List.length_map]; omega
              go_wp2_with (at_builtin; refine law_push tIntsL _ rfl _ _ rfl wd.heap.size _ (PL.map (.int .i64)) rfl OM.out _ _ rfl ?c0 rfl ?c1 ?c2 ?_)
              case c0 => simp
              case c1 => omega
              case c2 => exact hszz
              intro v' w' h1 h2
              rw [← HC.out] at h1
              have HN := hid h1
              have HBB := hid (BL.out.trans (grown_below h2 hszz (fun g hg => OM.out.ge g hg)))
              clear h1 h2
              go_wp2
              go_roundw
              case rel => exact ⟨m, dd - 1, PL, rfl, hm, by rw [HEM.out, HCM.out], by omega, HN.out, by rw [← HT2.out, HH.out], HBB.out⟩
              case measure =>
                simp only [intOf, Int.toNat_natCast]
                rw [HDU.out, HEM.out, HCM.out]; omega
            · have dq : (D.getD m 0 == ((dd : Int) - 1)) = false := by
                rw [beq_eq_false_iff_ne]; omega
              have HH := hid (HNX.out hc)
              clear HAT HNX hc
              generalize D.getD m 0 = e at *
              go_wp2
              have qcu := fun (p : Bel _) => cellB p.h cu (Nat.le_refl _)
              have qcv := fun (p : Bel _) => cellB p.h cv (Nat.le_refl _)
              have qck := fun (p : Bel _) => cellB p.h ck (Nat.le_refl _)
              have qcm := fun (p : Bel _) => cellB p.h cm (Nat.le_refl _)
              refine wp_quiet_b (by kernel_rfl) (by kernel_rfl) ?_
              repeat (go_big_quiet_step (fail))
              refine wpQuiet_nil ?_
              intro _ hw'
              obtain ⟨⟨w3, hb⟩, rfl⟩ := hw'
              clear qcu qcv qck qcm
              replace RT1 := hid (RT1.out.below hb (Nat.le_refl _))
              replace RA1 := hid (RA1.out.below hb (Nat.le_refl _))
              replace RD0 := hid (RD0.out.below hb (Nat.le_refl _))
              replace B1 := hid (bon B1.out hb)
              replace OM := hid (OM.out.past hb (Nat.le_refl _))
              replace BL := hid (bon BL.out hb)
              replace BQ := hid (bon BQ.out hb)
              replace cu := cellB hb cu (Nat.le_refl _)
              replace cv := cellB hb cv (Nat.le_refl _)
              replace RL := hid (RL.out.below hb (Nat.le_refl _))
              replace ck := cellB hb ck (Nat.le_refl _)
              replace cm := cellB hb cm (Nat.le_refl _)
              clear hb
              go_wp2
              go_roundw
              case rel => exact ⟨k + 1, by omega, by go_num, rfl, HH.out, BQ.out⟩
              case measure => simp [intOf]; omega
          · exfalso
            obtain ⟨x, hx, hdx⟩ := HDN.out
            obtain ⟨j, hj, rfl⟩ := List.mem_iff_getElem.1 hx
            exact HNO.out j hj (by omega) hdx
end Go.Proofs.YtlnhfafnhclolaaDoor
