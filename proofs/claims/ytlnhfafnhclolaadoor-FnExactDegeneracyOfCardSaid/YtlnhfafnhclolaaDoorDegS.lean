/- DegeneracyOf: the reference's. -/
import Derived.Test.YtlnhfafnhclolaaDoorLeft
import Derived.Test.YtlnhfafnhclolaaDoorDegM
import Derived.Test.YtlnhfafnhclolaaDoorBag
import Derived.Test.YtlnhfafnhclolaaDoorClique
import Derived.Deep.RegionWith
import Derived.Deep.RegionHeld3
namespace Go.Proofs.YtlnhfafnhclolaaDoor
open Go.RowKit
def optI : Option Nat → Int
  | none => -1
  | some b => b
theorem ownB_rd {e : TypeId} {w : World} {B n c : Nat} {a : Option Addr} {zs : List Bool} (h : Own e w B (.slice a n c) (zs.map Value.bool)) : Rd Value.bool w a zs := by
  obtain ⟨a', c', h1, h2, _⟩ := h.rd
  obtain ⟨rfl, _, rfl⟩ := slice_inj h1
  exact h2
theorem leftL_dg {g : List (List Int)} (hg : GOk g) {v : Nat} (hv : v < g.length) (S : Nat) : (leftL (row g v) S).length = dgA (g.map maskL) S v := by
  unfold dgA
  have h := hg.inc v hv
  have := hg.le
  rw [← leftL_pc h (by omega) S, List.getD_eq_getElem?_getD, List.getElem?_map, List.getElem?_eq_getElem hv, row_nat _ _ hv]
  rfl
set_option maxRecDepth 100000 in
set_option maxHeartbeats 2000000 in
theorem specDegeneracyOf_b (a : Option Addr) (rs : List Row) (c : Nat) (w : World) (r : Int) (hx : degL (nums rs) = r) (hr : RdM w a rs) (hn : Small rs) :
    Calls Tryd.prog 31 #[.agg #[.slice a rs.length c]] w fun e w' => e = .returned (.int .i64 r) ∧ Below w.heap.size w w' := by
  have RA := hid hr; have HX := hid hx; clear hr hx
  have hn1 := hn.1
  obtain ⟨w0, hw0⟩ : ∃ w0, w0 = (w.alloc (.cells #[.slice a rs.length c] 28)) := ⟨_, rfl⟩
  have B0 := hid (show Below w.heap.size w w0 by rw [hw0]; exact ((Below.refl _ _).alloc (Nat.le_refl _) _))
  have c0 : w0.cell? ⟨w.heap.size, 0, none⟩ = some (.slice a rs.length c) := by rw [hw0]; simp [go_sem]
  replace RA := hid (RA.out.below B0.out (Nat.le_refl _))
  have HW := hid hw0; clear hw0
  by_cases hg : GOk (nums rs)
  · have h1 := hid (show decide (GOk (nums rs)) = true by simpa using hg)
    have HG := hid hg
    have h16 : rs.length ≤ 16 := by have := hg.le; rwa [nums_length] at this
    have HFIN := hid (show ((dgR ((nums rs).map maskL) rs.length (2 ^ rs.length - 1) : Nat) : Int) = r by rw [← HX.out]; unfold degL; rw [if_pos hg, nums_length])
    have hpos := Nat.two_pow_pos rs.length
    have HLD := hid (fun v (hv : v < rs.length) S => (show (leftL rs[v].z S).length = dgA ((nums rs).map maskL) S v by rw [← row_rs rs v hv]; exact leftL_dg hg (by rw [nums_length]; exact hv) S))
    have HIN := hid (fun v (hv : v < rs.length) x (hx : x ∈ rs[v].z) => (show 0 ≤ x ∧ x < rs.length by
      have := gok_range hg (u := (v : Int)) (v := x) (by omega) (by rw [nums_length]; omega) (by rw [row_rs rs v hv]; exact hx)
      rwa [nums_length] at this))
    have HFULL := hid (memsN_full (show rs.length ≤ 32 by omega))
    have HALL := hid (goneL_all rs.length)
    have HF0 := hid (show 2 ^ rs.length - 1 < 2 ^ rs.length by omega)
    have HP16 := hid (show 2 ^ rs.length ≤ 65536 from Nat.pow_le_pow_right (n := 2) (i := rs.length) (j := 16) (by decide) h16)
    clear HX hg hpos
    generalize (nums rs).map maskL = A at *
    generalize 2 ^ rs.length - 1 = F at *
    go_enter Tryd.func31, Tryd.ntmps31
    go_wp2_with fail
    rw [← HW.out]
    go_wp2_with fail
    refine (specGraphOk_b a rs c _ _ h1.out RA.out hn).mono ?_
    rintro e w1 ⟨rfl, hb⟩
    replace RA := hid (RA.out.below hb (Nat.le_refl _))
    replace B0 := hid (bon B0.out hb)
    replace c0 := cellB hb c0 (Nat.le_refl _)
    clear hb
    go_wp2_with fail
    refine (l1Size_any a rs c _ hn1).mono ?_
    rintro e w2 ⟨rfl, hb⟩
    replace RA := hid (RA.out.below hb (Nat.le_refl _))
    replace B0 := hid (bon B0.out hb)
    replace c0 := cellB hb c0 (Nat.le_refl _)
    clear hb
    go_wp2_with (at_make; refine law_make tBools _ rfl _ _ rfl rs.length _ _ rfl rfl (by omega) ?_; intro wm hown hb hsz)
    have OG0 := hid hown; have BG0 := hid hb; clear hown hb
    have HREP := hid (show List.replicate rs.length (Value.bool false) = (goneL F rs.length).map Value.bool by rw [HALL.out]; simp)
    rw [HREP.out] at OG0
    go_wp2
    go_loopw [4, 5, 6, 7] (fun m x _ _ wr => ∃ M S k : Nat, m = .int .i64 M ∧ x = .int .i64 k ∧ k + (memsN S).length = rs.length ∧ S < 2 ^ rs.length ∧ dgR A rs.length F = max M (dgR A (memsN S).length S) ∧ Own 4 wr w2.heap.size (.slice (some ⟨w2.heap.size, 0, none⟩) rs.length rs.length) ((goneL S rs.length).map Value.bool) ∧ Below w2.heap.size w2 wr) (fun _ x _ _ _ => rs.length - (intOf x).toNat)
    case atStart => exact ⟨0, F, 0, rfl, rfl, by rw [HFULL.out]; omega, HF0.out, by rw [HFULL.out]; omega, OG0.out, BG0.out⟩
    case round =>
      obtain ⟨M, S, k, rfl, rfl, hk, hS, htot, ho, hb⟩ := hrel
      have HT := hid htot; have OG := hid ho; have BL := hid hb; clear htot ho
      replace RA := hid (RA.out.below hb (Nat.le_refl _))
      replace B0 := hid (bon B0.out hb)
      replace c0 := cellB hb c0 (Nat.le_refl _)
      clear hb
      have hS32 : S < 4294967296 := by have := HP16.out; omega
      have hkn : k ≤ rs.length := by omega
      go_wp2_with fail
      refine (l1Size_any a rs c _ hn1).mono ?_
      rintro e w3 ⟨rfl, hb⟩
      replace RA := hid (RA.out.below hb (Nat.le_refl _))
      replace B0 := hid (bon B0.out hb)
      replace c0 := cellB hb c0 (Nat.le_refl _)
      replace OG := hid (OG.out.past hb (Nat.le_refl _))
      replace BL := hid (bon BL.out hb)
      clear hb
      by_cases hlt : k < rs.length
      · have hki : (k : Int) < (rs.length : Int) := by omega
        have h0 : S ≠ 0 := by rintro rfl; rw [memsN_zero] at hk; simp at hk; omega
        obtain ⟨bb, hbb, hbit⟩ := best_in (f := dgA A S) hS32 h0
        have HBB := hid hbb
        have HSTEP := hid (dgR_step (A := A) hS32 hbb hbit)
        have hbn : bb < rs.length := bit_under hS hbit
        have HML := hid (memsN_dif hS32 hbit)
        have HBIT := hid hbit
        have HDL := hid (dif_bit_lt hbit)
        have HLN := hid (memsN_left hS (show rs.length ≤ 32 by omega))
        clear hbb hbit
        go_wp2
        go_loopw [6, 7] (fun b x wq => ∃ v : Nat, v ≤ rs.length ∧ x = .int .i64 v ∧ b = .int .i64 (optI (bestO (dgA A S) (leftN S v))) ∧ Below w3.heap.size w3 wq) (fun _ x _ => rs.length - (intOf x).toNat)
        case atStart => exact ⟨0, Nat.zero_le _, rfl, rfl, Below.refl _ _⟩
        case round =>
          obtain ⟨v, hv, rfl, hbe, hb⟩ := hrel
          have BQ := hid hb
          replace RA := hid (RA.out.below hb (Nat.le_refl _))
          replace B0 := hid (bon B0.out hb)
          replace c0 := cellB hb c0 (Nat.le_refl _)
          replace OG := hid (OG.out.past hb (Nat.le_refl _))
          replace BL := hid (bon BL.out hb)
          clear hb
          go_wp2_with fail
          refine (l1Size_any a rs c _ hn1).mono ?_
          rintro e w4 ⟨rfl, hb⟩
          replace RA := hid (RA.out.below hb (Nat.le_refl _))
          replace B0 := hid (bon B0.out hb)
          replace c0 := cellB hb c0 (Nat.le_refl _)
          replace OG := hid (OG.out.past hb (Nat.le_refl _))
          replace BL := hid (bon BL.out hb)
          replace BQ := hid (bon BQ.out hb)
          clear hb
          by_cases hlv : v < rs.length
          · subst hbe
            have hvi : (v : Int) < (rs.length : Int) := by omega
            have HSUC := hid (leftN_succ S v)
            have cg := OG.out.cell v (by simp [goneL_len]; exact hlv)
            rw [List.getElem_map, goneL_get] at cg
            by_cases hbv : S.testBit v = true
            · rw [hbv] at cg
              rw [if_pos hbv] at HSUC
              have HBO := hid (show bestO (dgA A S) (leftN S (v + 1)) = stepB (dgA A S) (bestO (dgA A S) (leftN S v)) v by rw [HSUC.out, bestO_snoc])
              clear hbv
              cases hbo : bestO (dgA A S) (leftN S v) with
              | none =>
                rw [hbo] at HBO
                have HBO2 := hid (show ((v : Nat) : Int) = optI (bestO (dgA A S) (leftN S (v + 1))) by rw [HBO.out]; rfl)
                have e0 : optI none = -1 := rfl
                clear hbo
                go_wp2
                have qc0 := fun (p : Bel _) => cellB p.h c0 (Nat.le_refl _)
                have qcg := fun (p : Bel _) => cellB p.h cg (Nat.le_refl _)
                refine wp_quiet_b (by kernel_rfl) (by kernel_rfl) ?_
                repeat (go_big_quiet_step (fail))
                refine wpQuiet_nil ?_
                intro _ hw'
                obtain ⟨⟨w5, hb⟩, rfl⟩ := hw'
                clear qc0 qcg
                replace RA := hid (RA.out.below hb (Nat.le_refl _))
                replace B0 := hid (bon B0.out hb)
                replace c0 := cellB hb c0 (Nat.le_refl _)
                replace OG := hid (OG.out.past hb (Nat.le_refl _))
                replace BL := hid (bon BL.out hb)
                replace BQ := hid (bon BQ.out hb)
                replace cg := cellB hb cg (Nat.le_refl _)
                clear hb
                go_wp2
                go_roundw
                case rel => exact ⟨v + 1, by omega, by go_num, by rw [← HBO2.out], BQ.out⟩
                case measure => simp [intOf]; omega
              | some n =>
                rw [hbo] at HBO
                have hnm := leftN_mem.1 (bestO_mem hbo)
                have hnl : n < rs.length := by omega
                have HNV := hid (show n ≠ v by omega)
                have hni : (n : Int) < (rs.length : Int) := by omega
                have HV1 := hid (HLD.out v hlv S)
                have HV2 := hid (HLD.out n hnl S)
                have HI1 := hid (HIN.out v hlv)
                have HI2 := hid (HIN.out n hnl)
                have e0 : optI (some n) = (n : Int) := rfl
                have hz1 := leftL_len rs[v].z S
                have hz2 := leftL_len rs[n].z S
                rw [e0]
                clear hbo hnm e0
                have D3 : Drawn w4 w4.drew := ⟨1, rfl⟩
                have RA3 := hid (RA.out.drawn D3)
                have OG3 := hid (OG.out.past (D3.below w4.heap.size) (Nat.le_refl _))
                have BQ3 := hid (BQ.out.trans (D3.below _))
                have f0 := dcell D3 c0
                have f1 : w4.drew.cell? ⟨w2.heap.size, v, none⟩ = some (.bool false) := dcell D3 cg
                by_cases hc : dgA A S v < dgA A S n
                · have HBO2 := hid (show ((v : Nat) : Int) = optI (bestO (dgA A S) (leftN S (v + 1))) by rw [HBO.out]; unfold stepB; simp only; rw [if_pos hc]; rfl)
                  have hci : (((leftL rs[v].z S).length : Nat) : Int) < (((leftL rs[n].z S).length : Nat) : Int) := by rw [HV1.out, HV2.out]; omega
                  clear hc
                  go_wp2_with fail
                  go_region_held3 (fun w' => w'.cell? ⟨w.heap.size, 0, none⟩ = some (.slice a rs.length c) ∧ w'.cell? ⟨w2.heap.size, v, none⟩ = some (.bool false)) (first | exact ⟨f0, f1⟩ | exact ⟨g0, g1⟩ | exact ⟨k0, k1⟩) ((first | (go_at_call_of 70 v; refine (l7Left_any _ _ _ _ _ _ _ _ RA3.out hn hlv HI1.out (ownB_rd OG3.out)).mono ?_; rintro e w6 ⟨pvg, rfl, hown, hb⟩; obtain ⟨pag, pcg, rfl, _⟩ := Own.rd hown; have g0 := cellB hb f0 (Nat.le_refl _); have g1 := cellB hb f1 (Nat.le_refl _); have RA4 := hid (RA3.out.below hb (Nat.le_refl _)); have OG4 := hid (OG3.out.past hb (Nat.le_refl _)); have BQ4 := hid (bon BQ3.out hb); clear hown hb) | (go_at_call_of 70 n; refine (l7Left_any _ _ _ _ _ _ _ _ RA4.out hn hnl HI2.out (ownB_rd OG4.out)).mono ?_; rintro e w7 ⟨pvk, rfl, hown, hb⟩; obtain ⟨pak, pck, rfl, _⟩ := Own.rd hown; have k0 := cellB hb g0 (Nat.le_refl _); have k1 := cellB hb g1 (Nat.le_refl _); have RA5 := hid (RA4.out.below hb (Nat.le_refl _)); have OG5 := hid (OG4.out.past hb (Nat.le_refl _)); have BQ5 := hid (bon BQ4.out hb); clear hown hb)))
                  go_wp2
                  go_roundw
                  case rel => exact ⟨v + 1, by omega, by go_num, by rw [← HBO2.out], BQ5.out⟩
                  case measure => simp [intOf]; omega
                · have HBO2 := hid (show ((n : Nat) : Int) = optI (bestO (dgA A S) (leftN S (v + 1))) by rw [HBO.out]; unfold stepB; simp only; rw [if_neg hc]; rfl)
                  have hci : ¬ (((leftL rs[v].z S).length : Nat) : Int) < (((leftL rs[n].z S).length : Nat) : Int) := by rw [HV1.out, HV2.out]; omega
                  clear hc
                  go_wp2_with fail
                  go_region_held3 (fun w' => w'.cell? ⟨w.heap.size, 0, none⟩ = some (.slice a rs.length c) ∧ w'.cell? ⟨w2.heap.size, v, none⟩ = some (.bool false)) (first | exact ⟨f0, f1⟩ | exact ⟨g0, g1⟩ | exact ⟨k0, k1⟩) ((first | (go_at_call_of 70 v; refine (l7Left_any _ _ _ _ _ _ _ _ RA3.out hn hlv HI1.out (ownB_rd OG3.out)).mono ?_; rintro e w6 ⟨pvg, rfl, hown, hb⟩; obtain ⟨pag, pcg, rfl, _⟩ := Own.rd hown; have g0 := cellB hb f0 (Nat.le_refl _); have g1 := cellB hb f1 (Nat.le_refl _); have RA4 := hid (RA3.out.below hb (Nat.le_refl _)); have OG4 := hid (OG3.out.past hb (Nat.le_refl _)); have BQ4 := hid (bon BQ3.out hb); clear hown hb) | (go_at_call_of 70 n; refine (l7Left_any _ _ _ _ _ _ _ _ RA4.out hn hnl HI2.out (ownB_rd OG4.out)).mono ?_; rintro e w7 ⟨pvk, rfl, hown, hb⟩; obtain ⟨pak, pck, rfl, _⟩ := Own.rd hown; have k0 := cellB hb g0 (Nat.le_refl _); have k1 := cellB hb g1 (Nat.le_refl _); have RA5 := hid (RA4.out.below hb (Nat.le_refl _)); have OG5 := hid (OG4.out.past hb (Nat.le_refl _)); have BQ5 := hid (bon BQ4.out hb); clear hown hb)))
                  go_wp2
                  go_roundw
                  case rel => exact ⟨v + 1, by omega, by go_num, by rw [← HBO2.out], BQ5.out⟩
                  case measure => simp [intOf]; omega
            · have hb2 : S.testBit v = false := by simpa using hbv
              rw [hb2] at cg
              rw [if_neg hbv, List.append_nil] at HSUC
              have HBO2 := hid (show optI (bestO (dgA A S) (leftN S v)) = optI (bestO (dgA A S) (leftN S (v + 1))) by rw [HSUC.out])
              clear hbv
              generalize optI (bestO (dgA A S) (leftN S v)) = best at *
              go_wp2
              have qc0 := fun (p : Bel _) => cellB p.h c0 (Nat.le_refl _)
              have qcg := fun (p : Bel _) => cellB p.h cg (Nat.le_refl _)
              refine wp_quiet_b (by kernel_rfl) (by kernel_rfl) ?_
              repeat (go_big_quiet_step (fail))
              refine wpQuiet_nil ?_
              intro _ hw'
              obtain ⟨⟨w6, hb⟩, rfl⟩ := hw'
              clear qc0 qcg
              replace RA := hid (RA.out.below hb (Nat.le_refl _))
              replace B0 := hid (bon B0.out hb)
              replace c0 := cellB hb c0 (Nat.le_refl _)
              replace OG := hid (OG.out.past hb (Nat.le_refl _))
              replace BL := hid (bon BL.out hb)
              replace BQ := hid (bon BQ.out hb)
              replace cg := cellB hb cg (Nat.le_refl _)
              clear hb
              go_wp2
              go_roundw
              case rel => exact ⟨v + 1, by omega, by go_num, by rw [← HBO2.out], BQ.out⟩
              case measure => simp [intOf]; omega
          · obtain rfl : v = rs.length := by omega
            have hbe2 := hbe.trans (show Value.int .i64 (optI (bestO (dgA A S) (leftN S rs.length))) = .int .i64 (bb : Int) by rw [← HLN.out, HBB.out]; rfl)
            clear hbe
            subst hbe2
            have hbi : (bb : Int) < (rs.length : Int) := by omega
            have HV1 := hid (HLD.out bb hbn S)
            have HI1 := hid (HIN.out bb hbn)
            go_wp2_with fail
            refine (l7Left_any _ _ _ _ _ _ _ _ RA.out hn hbn HI1.out (ownB_rd OG.out)).mono ?_
            rintro e w8 ⟨pv, rfl, hown, hb⟩
            obtain ⟨pa, pc, rfl, _⟩ := Own.rd hown
            replace RA := hid (RA.out.below hb (Nat.le_refl _))
            replace B0 := hid (bon B0.out hb)
            replace c0 := cellB hb c0 (Nat.le_refl _)
            replace OG := hid (OG.out.past hb (Nat.le_refl _))
            replace BL := hid (bon BL.out hb)
            replace BQ := hid (bon BQ.out hb)
            clear hb
            clear hown
            have hL := HV1.out
            generalize (leftL rs[bb].z S).length = L at *
            have hst := OG.out.store bb (by simp [goneL_len]; exact hbn) (.bool true)
            rw [← List.map_set, goneL_set] at hst
            have OG2 := hid hst; clear hst
            have cgb := OG.out.cell bb (by simp [goneL_len]; exact hbn)
            have hfr := OG.out.free bb
            have BL2 := hid (BL.out.setCell (p := ⟨w2.heap.size, bb, none⟩) (Nat.le_refl _) (.bool true))
            clear OG BL
            have hml := HML.out
            have hdl := HDL.out
            have HTT := hid (show dgR A rs.length F = max (max M L) (dgR A (memsN (dif S (2 ^ bb))).length (dif S (2 ^ bb))) by rw [HT.out, HSTEP.out, hL]; omega)
            have HS2 := hid (show dif S (2 ^ bb) < 2 ^ rs.length by omega)
            have HK2 := hid (show k + 1 + (memsN (dif S (2 ^ bb))).length = rs.length by omega)
            clear hml hdl HML HDL
            go_wp2_with (first | (go_at_call 71; refine (l1Max_any _ _ _).mono ?_; rintro e w' ⟨rfl, rfl⟩))
            go_wp2
            go_roundw
            case rel => exact ⟨max M L, dif S (2 ^ bb), k + 1, by (apply congrArg; omega), by go_num, HK2.out, HS2.out, HTT.out, OG2.out, BL2.out⟩
            case measure => simp [intOf]; omega
      · have hz : (memsN S).length = 0 := by omega
        have HR := hid (show ((M : Nat) : Int) = r by
          rw [← HFIN.out, HT.out, hz]; simp [dgR])
        go_wp2
        go_ret
        exact ⟨ret_int HR.out, B0.out⟩
  · have h1 := hid (show decide (GOk (nums rs)) = false by simpa using hg)
    have HFIN := hid (show (-1 : Int) = r by rw [← HX.out]; unfold degL; rw [if_neg hg])
    clear hg HX
    go_enter Tryd.func31, Tryd.ntmps31
    go_wp2_with fail
    rw [← HW.out]
    go_wp2_with fail
    refine (specGraphOk_b a rs c _ _ h1.out RA.out hn).mono ?_
    rintro e w7 ⟨rfl, hb⟩
    replace RA := hid (RA.out.below hb (Nat.le_refl _))
    replace B0 := hid (bon B0.out hb)
    replace c0 := cellB hb c0 (Nat.le_refl _)
    clear hb
    go_wp2
    go_ret
    exact ⟨ret_int HFIN.out, B0.out⟩
end Go.Proofs.YtlnhfafnhclolaaDoor
