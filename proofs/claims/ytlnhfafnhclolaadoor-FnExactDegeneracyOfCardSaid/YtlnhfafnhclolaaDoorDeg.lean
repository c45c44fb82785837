/- DegeneracyOf: the program's. -/
import Derived.Test.YtlnhfafnhclolaaDoorDegM
import Derived.Test.YtlnhfafnhclolaaDoorMiss
import Derived.Test.YtlnhfafnhclolaaDoorClique
import Derived.Test.YtlnhfafnhclolaaDoorDist
import Derived.Deep.RegionWith
namespace Go.Proofs.YtlnhfafnhclolaaDoor
open Go.RowKit
theorem memsN_get {S k : Nat} (hk : k < (mems S).length) : (mems S)[k] = (((memsN S)[k]'(by unfold mems at hk; simpa using hk) : Nat) : Int) := by simp [mems]
theorem mems_lenN (S : Nat) : (mems S).length = (memsN S).length := by simp [mems]
theorem one_p (v P : Nat) (w : World) (hv : v < 32) (hP : 2 ^ v = P) : Calls Tryd.prog 75 #[.int .i64 v] w fun e w' => e = .returned (.int .u32 (P : Int)) ∧ w = w' := by rw [← hP]; exact one_any v w hv
theorem all_p (a : Option Addr) (n c F : Nat) (w : World) (hn : n ≤ 16) (hF : 2 ^ n - 1 = F) : Calls Tryd.prog 72 #[.slice a n c] w fun e w' => e = .returned (.int .u32 (F : Int)) ∧ w = w' := by rw [← hF]; exact all_any a n c w hn
set_option maxHeartbeats 1000000 in
theorem implDegeneracyOf_b (a : Option Addr) (rs : List Row) (c : Nat) (w : World) (r : Int) (hx : degL (nums rs) = r) (hr : RdM w a rs) (hn : Small rs) (hT : TabOk w) :
    Calls Tryd.prog 32 #[.agg #[.slice a rs.length c]] w fun e w' => e = .returned (.int .i64 r) ∧ Below w.heap.size w w' := by
  have RA := hid hr; have HX := hid hx; have RT := hid hT; clear hr hx hT
  obtain ⟨w0, hw0⟩ : ∃ w0, w0 = (w.alloc (.cells #[.slice a rs.length c] 28)) := ⟨_, rfl⟩
  have B0 := hid (show Below w.heap.size w w0 by rw [hw0]; exact ((Below.refl _ _).alloc (Nat.le_refl _) _))
  have c0 : w0.cell? ⟨w.heap.size, 0, none⟩ = some (.slice a rs.length c) := by rw [hw0]; simp [go_sem]
  replace RA := hid (RA.out.below B0.out (Nat.le_refl _))
  replace RT := hid (RT.out.below B0.out (Nat.le_refl _))
  have HW := hid hw0; clear hw0
  by_cases hg : GOk (nums rs)
  · have h1 := hid (show decide (GOk (nums rs)) = true by simpa using hg)
    have HG := hid hg
    have h16 : rs.length ≤ 16 := by have := hg.le; rwa [nums_length] at this
    have HFIN := hid (show ((dgR ((nums rs).map maskL) rs.length (2 ^ rs.length - 1) : Nat) : Int) = r by rw [← HX.out]; unfold degL; rw [if_pos hg, nums_length])
    have HA16 := hid (in16_of hg)
    have hlr : ((nums rs).map maskL).length = rs.length := by rw [List.length_map, nums_length]
    have hp : 2 ^ rs.length ≤ 65536 := Nat.pow_le_pow_right (n := 2) (i := rs.length) (j := 16) (by decide) h16
    have hpos := Nat.two_pow_pos rs.length
    have hfull := memsN_full (show rs.length ≤ 32 by omega)
    clear HX hg
    go_enter Tryd.func32, Tryd.ntmps32
    go_wp2_with fail
    rw [← HW.out]
    go_wp2_with fail
    refine (implGraphOk_b a rs c _ true h1.out RA.out hn).mono ?_
    rintro e w1 ⟨rfl, hb⟩
    replace RA := hid (RA.out.below hb (Nat.le_refl _))
    replace RT := hid (RT.out.below hb (Nat.le_refl _))
    replace B0 := hid (bon B0.out hb)
    replace c0 := cellB hb c0 (Nat.le_refl _)
    clear hb
    go_wp2_with fail
    refine (netsOf_any a rs c _ HG.out RA.out hn).mono ?_
    rintro e w2 ⟨v, rfl, hown, hb⟩
    replace RA := hid (RA.out.below hb (Nat.le_refl _))
    replace RT := hid (RT.out.below hb (Nat.le_refl _))
    replace B0 := hid (bon B0.out hb)
    replace c0 := cellB hb c0 (Nat.le_refl _)
    clear hb
    obtain ⟨na, nc, rfl, hsr, _, _, _, _⟩ := Own.rd (f := netF) hown
    have RN := hid hsr.masks; clear hown hsr RA c0 HG h1 HW
    rw [nums_length]
    generalize (nums rs).map maskL = A at *
    have HLN := hid hlr; clear hlr
    go_wp2_with (first | (go_at_call 72; refine (all_any _ _ _ _ h16).mono ?_; rintro e w' ⟨rfl, rfl⟩))
    have HTOT := hid (show dgR A rs.length (2 ^ rs.length - 1) = max 0 (dgR A (memsN (2 ^ rs.length - 1)).length (2 ^ rs.length - 1)) by rw [hfull]; omega)
    have HS0 := hid (show 2 ^ rs.length - 1 < 2 ^ rs.length by omega)
    generalize hF : 2 ^ rs.length - 1 = F at *
    clear hF hfull
    go_loopw [4, 5, 6, 8] (fun m l _ _ wr => ∃ M S : Nat, m = .int .i64 M ∧ l = .int .u32 S ∧ S < 2 ^ rs.length ∧ dgR A rs.length F = max M (dgR A (memsN S).length S) ∧ M ≤ 16 ∧ Below w2.heap.size w2 wr) (fun _ l _ _ _ => (intOf l).toNat)
    case atStart => exact ⟨0, F, rfl, rfl, HS0.out, HTOT.out, by decide, Below.refl _ _⟩
    case round =>
      obtain ⟨M, S, rfl, rfl, hS, htot, hM, hb⟩ := hrel
      have HT := hid htot; clear htot
      have BL := hid hb
      replace RT := hid (RT.out.below hb (Nat.le_refl _))
      replace RN := hid (RN.out.below hb (Nat.le_refl _))
      replace B0 := hid (bon B0.out hb)
      clear hb
      have hS32 : S < 4294967296 := by omega
      by_cases h0 : S = 0
      · subst h0
        have HR := hid (show ((M : Nat) : Int) = r by
          rw [← HFIN.out, HT.out, memsN_zero]; simp [dgR])
        go_wp2
        go_ret
        exact ⟨ret_int HR.out, B0.out⟩
      · have d0 : ((S : Int) != 0) = true := by simp; omega
        obtain ⟨bb, hbb, hbit⟩ := best_in (f := dgA A S) hS32 h0
        have HBB := hid hbb
        have HSTEP := hid (dgR_step (A := A) hS32 hbb hbit)
        have hbn : bb < rs.length := bit_under hS hbit
        have HBIT := hid hbit
        have hdl := dif_bit_lt hbit
        clear hbb hbit
        have HLOW := hid (low_bit h0 hS32)
        go_wp2_with fail
        refine (least_any S _ RT.out h0 (by omega)).mono ?_
        rintro e w3 ⟨rfl, hd⟩
        have hb := Drawn.bel hd
        replace RT := hid (RT.out.below hb (Nat.le_refl _))
        replace RN := hid (RN.out.below hb (Nat.le_refl _))
        replace B0 := hid (bon B0.out hb)
        replace BL := hid (bon BL.out hb)
        clear hb hd
        go_wp2_with fail
        refine (list_any S _ RT.out (by omega)).mono ?_
        rintro e w4 ⟨lv, rfl, ho, hb⟩
        replace RT := hid (RT.out.below hb (Nat.le_refl _))
        replace RN := hid (RN.out.below hb (Nat.le_refl _))
        replace B0 := hid (bon B0.out hb)
        replace BL := hid (bon BL.out hb)
        clear hb
        obtain ⟨la, lc, rfl, hlr, _, _, _, hlb⟩ := ho.rd
        have RL := hid hlr; clear hlr ho hlb
        have hml := mems_len S
        go_wp2
        go_loopw [6, 8, 23] (fun b _ x wq => ∃ k n : Nat, k ≤ (mems S).length ∧ x = .int .i64 k ∧ b = .int .i64 n ∧ n = (bestO (dgA A S) ((memsN S).take k)).getD (low S) ∧ S.testBit n = true ∧ Below w4.heap.size w4 wq) (fun _ _ x _ => (mems S).length - (intOf x).toNat)
        case atStart => exact ⟨0, low S, Nat.zero_le _, rfl, rfl, rfl, HLOW.out, Below.refl _ _⟩
        case round =>
          obtain ⟨k, n, hk, rfl, rfl, hnn, hnb, hb⟩ := hrel
          have HN := hid hnn; have HNB := hid hnb; clear hnn
          have BQ := hid hb
          replace RT := hid (RT.out.below hb (Nat.le_refl _))
          replace RN := hid (RN.out.below hb (Nat.le_refl _))
          replace RL := hid (RL.out.below hb (Nat.le_refl _))
          replace B0 := hid (bon B0.out hb)
          replace BL := hid (bon BL.out hb)
          clear hb
          have hnl : n < rs.length := bit_under hS hnb
          clear hnb
          by_cases hlt : k < (mems S).length
          · obtain ⟨lb, lo, rfl, cl⟩ := RL.out k hlt
            have hki : (k : Int) < ((mems S).length : Int) := by omega
            have hltN : k < (memsN S).length := by rw [← mems_lenN]; exact hlt
            have HG2 := hid (bestG_step (f := dgA A S) hS32 hltN)
            have hvb := (memsN_mem hS32).1 (List.getElem_mem hltN)
            have hvl := bit_under hS hvb
            have HVB := hid hvb; clear hvb
            rw [memsN_get hlt] at cl
            rw [← HN.out] at HG2
            generalize (memsN S)[k] = v at *
            obtain ⟨ab, ao, rfl, cv⟩ := RN.out v (by rw [HLN.out]; exact hvl)
            obtain ⟨ab', ao', hab, cn⟩ := RN.out n (by rw [HLN.out]; exact hnl)
            obtain ⟨rfl, rfl⟩ : ab = ab' ∧ ao = ao' := by simp at hab; exact hab
            clear hab
            have hAv := HA16.out _ (List.getElem_mem (show v < A.length by rw [HLN.out]; exact hvl))
            have hAn := HA16.out _ (List.getElem_mem (show n < A.length by rw [HLN.out]; exact hnl))
            have hev : dgA A S v = pcN 16 (A[v]'(by rw [HLN.out]; exact hvl) &&& S) := by
              unfold dgA; rw [List.getD_eq_getElem?_getD, List.getElem?_eq_getElem (show v < A.length by rw [HLN.out]; exact hvl)]; rfl
            have hen : dgA A S n = pcN 16 (A[n]'(by rw [HLN.out]; exact hnl) &&& S) := by
              unfold dgA; rw [List.getD_eq_getElem?_getD, List.getElem?_eq_getElem (show n < A.length by rw [HLN.out]; exact hnl)]; rfl
            rw [hev, hen] at HG2
            clear hev hen
            unfold maskF at cv cn
            have hvi : (v : Int) < (rs.length : Int) := by omega
            have hni : (n : Int) < (rs.length : Int) := by omega
            generalize A[v]'(by rw [HLN.out]; exact hvl) = X at *
            generalize A[n]'(by rw [HLN.out]; exact hnl) = Y at *
            have hand := u32_and_nat X S (by omega) (by omega)
            have hand2 := u32_and_nat Y S (by omega) (by omega)
            have hX : X &&& S < 65536 := Nat.lt_of_le_of_lt Nat.and_le_left hAv
            have hY : Y &&& S < 65536 := Nat.lt_of_le_of_lt Nat.and_le_left hAn
            generalize X &&& S = MX at *
            generalize Y &&& S = MY at *
            by_cases hc : pcN 16 MX < pcN 16 MY
            · rw [if_pos hc] at HG2
              have hci : ((pcN 16 MX : Nat) : Int) < ((pcN 16 MY : Nat) : Int) := by omega
              go_wp2
              have qcl := fun (p : Bel _) => cellB p.h cl (Nat.le_refl _)
              have qcv := fun (p : Bel _) => cellB p.h cv (Nat.le_refl _)
              have qcn := fun (p : Bel _) => cellB p.h cn (Nat.le_refl _)
              refine wp_quiet_b (by kernel_rfl) (by kernel_rfl) ?_
              repeat (go_big_quiet_step (first | (go_at_call_of 74 MX; exact qbd (size_any _ _ hX)) | (go_at_call_of 74 MY; exact qbd (size_any _ _ hY))))
              refine wpQuiet_nil ?_
              intro _ hw'
              obtain ⟨⟨w5, hb⟩, rfl⟩ := hw'
              clear qcl qcv qcn
              replace RT := hid (RT.out.below hb (Nat.le_refl _))
              replace RN := hid (RN.out.below hb (Nat.le_refl _))
              replace RL := hid (RL.out.below hb (Nat.le_refl _))
              replace B0 := hid (bon B0.out hb)
              replace BL := hid (bon BL.out hb)
              replace BQ := hid (bon BQ.out hb)
              replace cl := cellB hb cl (Nat.le_refl _)
              replace cv := cellB hb cv (Nat.le_refl _)
              replace cn := cellB hb cn (Nat.le_refl _)
              clear hb
              go_wp2
              go_roundw
              case rel => exact ⟨k + 1, v, by omega, by go_num, rfl, HG2.out.symm, HVB.out, BQ.out⟩
              case measure => simp [intOf]; omega
            · rw [if_neg hc] at HG2
              have hci : ¬ ((pcN 16 MX : Nat) : Int) < ((pcN 16 MY : Nat) : Int) := by omega
              go_wp2
              have qcl := fun (p : Bel _) => cellB p.h cl (Nat.le_refl _)
              have qcv := fun (p : Bel _) => cellB p.h cv (Nat.le_refl _)
              have qcn := fun (p : Bel _) => cellB p.h cn (Nat.le_refl _)
              refine wp_quiet_b (by kernel_rfl) (by kernel_rfl) ?_
              repeat (go_big_quiet_step (first | (go_at_call_of 74 MX; exact qbd (size_any _ _ hX)) | (go_at_call_of 74 MY; exact qbd (size_any _ _ hY))))
              refine wpQuiet_nil ?_
              intro _ hw'
              obtain ⟨⟨w6, hb⟩, rfl⟩ := hw'
              clear qcl qcv qcn
              replace RT := hid (RT.out.below hb (Nat.le_refl _))
              replace RN := hid (RN.out.below hb (Nat.le_refl _))
              replace RL := hid (RL.out.below hb (Nat.le_refl _))
              replace B0 := hid (bon B0.out hb)
              replace BL := hid (bon BL.out hb)
              replace BQ := hid (bon BQ.out hb)
              replace cl := cellB hb cl (Nat.le_refl _)
              replace cv := cellB hb cv (Nat.le_refl _)
              replace cn := cellB hb cn (Nat.le_refl _)
              clear hb
              go_wp2
              go_roundw
              case rel => exact ⟨k + 1, n, by omega, by go_num, rfl, HG2.out.symm, HNB.out, BQ.out⟩
              case measure => simp [intOf]; omega
          · obtain rfl : k = (mems S).length := by omega
            have hnb2 : n = bb := by rw [HN.out, mems_lenN, List.take_length, HBB.out]; rfl
            subst hnb2
            obtain ⟨ab, ao, rfl, cn⟩ := RN.out n (by rw [HLN.out]; exact hnl)
            have hAn := HA16.out _ (List.getElem_mem (show n < A.length by rw [HLN.out]; exact hnl))
            have hen : dgA A S n = pcN 16 (A[n]'(by rw [HLN.out]; exact hnl) &&& S) := by
              unfold dgA; rw [List.getD_eq_getElem?_getD, List.getElem?_eq_getElem (show n < A.length by rw [HLN.out]; exact hnl)]; rfl
            rw [hen] at HSTEP
            clear hen HN
            unfold maskF at cn
            have hni : (n : Int) < (rs.length : Int) := by omega
            generalize A[n]'(by rw [HLN.out]; exact hnl) = Y at *
            have hand2 := u32_and_nat Y S (by omega) (by omega)
            have hY : Y &&& S < 65536 := Nat.lt_of_le_of_lt Nat.and_le_left hAn
            have hpw : 2 ^ n < 65536 := Nat.pow_lt_pow_right (by decide) (show n < 16 by omega)
            have hdf := u32_dif S (2 ^ n) (by omega) (by omega)
            have hpc := pcN_le 16 (Y &&& S)
            generalize Y &&& S = MY at *
            generalize dif S (2 ^ n) = S2 at *
            generalize hPP : 2 ^ n = P at *
            have HTT := hid (show dgR A rs.length F = max (max M (pcN 16 MY)) (dgR A (memsN S2).length S2) by rw [HT.out, HSTEP.out]; omega)
            go_wp2_with fail
            refine (size_any MY _ hY).mono ?_
            rintro e w7 ⟨rfl, hd⟩
            have hb := Drawn.bel hd
            replace RT := hid (RT.out.below hb (Nat.le_refl _))
            replace RN := hid (RN.out.below hb (Nat.le_refl _))
            replace B0 := hid (bon B0.out hb)
            replace BL := hid (bon BL.out hb)
            replace BQ := hid (bon BQ.out hb)
            replace cn := cellB hb cn (Nat.le_refl _)
            clear hb hd
            go_wp2_with (first | (go_at_call 75; refine (one_p n P _ (by omega) hPP).mono ?_; rintro e w' ⟨rfl, rfl⟩))
            go_wp2
            go_roundw
            case rel => exact ⟨max M (pcN 16 MY), S2, by (split <;> (apply congrArg; omega)), rfl, by omega, HTT.out, by omega, BL.out⟩
            case measure => simp [intOf]; omega
  · have h1 := hid (show decide (GOk (nums rs)) = false by simpa using hg)
    have HFIN := hid (show (-1 : Int) = r by rw [← HX.out]; unfold degL; rw [if_neg hg])
    clear hg HX
    go_enter Tryd.func32, Tryd.ntmps32
    go_wp2_with fail
    rw [← HW.out]
    go_wp2_with fail
    refine (implGraphOk_b a rs c _ false h1.out RA.out hn).mono ?_
    rintro e w8 ⟨rfl, hb⟩
    replace RA := hid (RA.out.below hb (Nat.le_refl _))
    replace RT := hid (RT.out.below hb (Nat.le_refl _))
    replace B0 := hid (bon B0.out hb)
    replace c0 := cellB hb c0 (Nat.le_refl _)
    clear hb
    go_wp2
    go_ret
    exact ⟨ret_int HFIN.out, B0.out⟩
end Go.Proofs.YtlnhfafnhclolaaDoor
