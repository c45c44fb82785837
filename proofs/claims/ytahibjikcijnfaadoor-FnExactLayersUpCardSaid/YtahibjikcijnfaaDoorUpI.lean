/- UpOk: the program's. -/
import Derived.Test.YtahibjikcijnfaaDoorUpM
import Derived.Test.YtahibjikcijnfaaDoorBagM
import Derived.Test.YtahibjikcijnfaaDoorClique
import Derived.Deep.RegionWith
namespace Go.Proofs.YtahibjikcijnfaaDoor
open Go.RowKit
noncomputable instance (g up : List (List Int)) : Decidable (ImplUp g up) := Classical.propDecidable _
theorem row_get1 {g : List (List Int)} (v : Nat) (hv : v < g.length) : row g (v : Int) = g[v] := row_nat _ _ _
set_option maxHeartbeats 8000000 in
theorem implUpOk_b (a : Option Addr) (rs : List Row) (c : Nat) (a' : Option Addr) (qs : List Row) (c' : Nat) (w : World) (b : Bool) (hb : decide (SpecUp (nums rs) (nums qs)) = b) (hr : RdM w a rs) (hn : Small rs) (hq : RdM w a' qs) (hm : Small qs) (hT : TabOk w) :
    Calls Tryd.prog 136 #[.agg #[.slice a rs.length c], .slice a' qs.length c'] w fun e w' => e = .returned (.bool b) ∧ Below w.heap.size w w' := by
  have RA := hid hr; have RQ := hid hq; have RT := hid hT
  have HB := hid (show decide (ImplUp (nums rs) (nums qs)) = b by rw [← hb, decide_eq_decide, up_iff])
  clear hr hq hb hT
  have hn1 := hn.1; have hm1 := hm.1
  obtain ⟨w0, hw0⟩ : ∃ w0, w0 = (w.alloc (.cells #[.slice a rs.length c] 28)) := ⟨_, rfl⟩
  have B0 := hid (show Below w.heap.size w w0 by rw [hw0]; exact ((Below.refl _ _).alloc (Nat.le_refl _) _))
  have c0 : w0.cell? ⟨w.heap.size, 0, none⟩ = some (.slice a rs.length c) := by rw [hw0]; simp [go_sem]
  replace RA := hid (RA.out.below B0.out (Nat.le_refl _))
  replace RQ := hid (RQ.out.below B0.out (Nat.le_refl _))
  replace RT := hid (RT.out.below B0.out (Nat.le_refl _))
  have HW := hid hw0; clear hw0
  by_cases hg : GOk (nums rs)
  · have h1 := hid (show decide (GOk (nums rs)) = true by simpa using hg)
    have HG := hid hg
    have h16 : rs.length ≤ 16 := by have := hg.le; rwa [nums_length] at this
    clear hg
    by_cases hf : qs.length = rs.length
    · have hd : ((qs.length : Int) != (rs.length : Int)) = false := by rw [hf]; simp
      have hdn : (qs.length != rs.length) = false := by rw [hf]; simp
      have HLEN := hid (show (nums qs).length = (nums rs).length by rw [nums_length, nums_length, hf])
      have HF := hid hf
      have hq16 : qs.length ≤ 16 := by omega
      clear hf
      go_enter Tryd.func136, Tryd.ntmps136
      go_wp2_with fail
      rw [← HW.out]
      go_wp2_with fail
      refine (implGraphOk_b a rs c _ true h1.out RA.out hn).mono ?_
      rintro e w1 ⟨rfl, hb⟩
      replace RA := hid (RA.out.below hb (Nat.le_refl _))
      replace RQ := hid (RQ.out.below hb (Nat.le_refl _))
      replace RT := hid (RT.out.below hb (Nat.le_refl _))
      replace B0 := hid (bon B0.out hb)
      replace c0 := cellB hb c0 (Nat.le_refl _)
      clear hb
      go_wp2
      go_loop [6, 25] (fun _ i => ∃ k : Nat, k ≤ qs.length ∧ i = .int .i64 k ∧ (∀ j, (hj : j < qs.length) → j < k → Inc rs.length qs[j].z)) (fun _ i => qs.length - (intOf i).toNat)
      case atStart => exact ⟨0, Nat.zero_le _, rfl, fun j _ h => absurd h (Nat.not_lt_zero j)⟩
      case round =>
        obtain ⟨k, hk, rfl, hrows⟩ := hrel
        have HROWS := hid hrows; clear hrows
        by_cases hlt : k < qs.length
        · obtain ⟨b', o, rfl, cc, hok⟩ := RQ.out.at k hlt
          have RK := hid hok.1; clear hok
          have hz := Nat.le_trans (hm.2 _ (List.getElem_mem hlt)) (show 1048576 ≤ 16777216 by decide)
          have HOK := hid (fun (h2 : Inc rs.length qs[k].z) => (show ∀ j, (hj : j < qs.length) → j < k + 1 → Inc rs.length qs[j].z from fun j hj hjk => by
            rcases Nat.lt_succ_iff_lt_or_eq.1 hjk with h3 | rfl
            · exact HROWS.out j hj h3
            · exact h2))
          have HNO := hid (fun (h : ¬ Inc rs.length qs[k].z) => (show ¬ ImplUp (nums rs) (nums qs) from fun hh => h (by have := hh.inc _ (List.mem_map.2 ⟨qs[k], List.getElem_mem hlt, rfl⟩); rwa [nums_length] at this)))
          generalize qs[k] = q at *
          have hi0 : (k : Int) < (qs.length : Int) := by omega
          obtain ⟨bi, hbi⟩ : ∃ bi, decide (Inc (rs.length : Int) q.z) = bi := ⟨_, rfl⟩
          have HI := hid hbi
          cases bi
          · have HFIN := hid (HNO.out fun h => by simp [h] at hbi)
            clear hbi
            go_wp2_with (first | (go_at_call 125; refine (increasing_b _ _ _ _ _ _ HI.out RK.out hz (by omega) (by omega)).mono ?_; rintro e w' ⟨rfl, rfl⟩))
            go_ret
            exact ⟨ret_bool (dec_f HB.out HFIN.out), B0.out⟩
          · have HFIN := hid (HOK.out (by simpa using hbi))
            clear hbi
            go_wp2_with (first | (go_at_call 125; refine (increasing_b _ _ _ _ _ _ HI.out RK.out hz (by omega) (by omega)).mono ?_; rintro e w' ⟨rfl, rfl⟩))
            go_round
            case rel => exact ⟨k + 1, by omega, by go_num, HFIN.out⟩
            case measure => simp [intOf]; omega
        · obtain rfl : k = qs.length := by omega
          have HALLR := hid (show ∀ b ∈ nums qs, Inc (nums rs).length b from fun b hb => by
            obtain ⟨q, hq, rfl⟩ := List.mem_map.1 hb
            obtain ⟨j, hj, rfl⟩ := List.mem_iff_getElem.1 hq
            rw [nums_length]; exact HROWS.out j hj hj)
          have HQV := hid (show ∀ r ∈ qs, ∀ v ∈ r.z, 0 ≤ v ∧ v < 16 from fun r hr v hv => by
            have := (HALLR.out r.z (List.mem_map_of_mem hr)).1 v hv; have := HG.out.le; omega)
          have HQ0 := hid (show ∀ u : Nat, u < (nums rs).length → maskL (row (nums qs) (u : Int)) < 65536 ∧ ∀ i : Nat, (maskL (row (nums qs) (u : Int))).testBit i = decide ((i : Int) ∈ row (nums qs) (u : Int)) from fun u hu => by
            have hi := HALLR.out _ (row_mem_of (up := nums qs) (v := u) (by have := HLEN.out; omega))
            have h16' := HG.out.le
            exact ⟨maskL_lt _ 16 (fun v hv => by have := hi.1 v hv; omega), fun i => testBit_maskL _ i (fun v hv => (hi.1 v hv).1)⟩)
          go_wp2_with fail
          refine (bagMasks_any a' qs c' _ hq16 HQV.out RQ.out hm).mono ?_
          rintro e w2 ⟨v, rfl, hown, hb⟩
          replace RA := hid (RA.out.below hb (Nat.le_refl _))
          replace RQ := hid (RQ.out.below hb (Nat.le_refl _))
          replace RT := hid (RT.out.below hb (Nat.le_refl _))
          replace B0 := hid (bon B0.out hb)
          replace c0 := cellB hb c0 (Nat.le_refl _)
          clear hb
          obtain ⟨sa, sc, rfl, hsr, _, _, _, _⟩ := Own.rd (f := netF) hown
          have RS := hid hsr; clear hown hsr
          rw [nums_length]
          go_wp2_with fail
          go_wp2_with fail
          refine (netsOf_any a rs c _ HG.out RA.out hn).mono ?_
          rintro e w3 ⟨v, rfl, hown, hb⟩
          replace RA := hid (RA.out.below hb (Nat.le_refl _))
          replace RQ := hid (RQ.out.below hb (Nat.le_refl _))
          replace RS := hid (RS.out.below hb (Nat.le_refl _))
          replace RT := hid (RT.out.below hb (Nat.le_refl _))
          replace B0 := hid (bon B0.out hb)
          replace c0 := cellB hb c0 (Nat.le_refl _)
          clear hb
          obtain ⟨na, nc, rfl, hsr, _, _, _, _⟩ := Own.rd (f := netF) hown
          have RN := hid hsr; clear hown hsr
          rw [nums_length]
          obtain ⟨wn, rfl⟩ : ∃ wn, wn = w3 := ⟨_, rfl⟩
          go_wp2
          go_loopw [8, 9, 11, 41] (fun _ _ _ x wr => ∃ u : Nat, u ≤ rs.length ∧ x = .int .i64 u ∧ (∀ y : Nat, y < u → UpAt (nums rs) (nums qs) y) ∧ Below wn.heap.size wn wr) (fun _ _ _ x _ => rs.length - (intOf x).toNat)
          case atStart => exact ⟨0, Nat.zero_le _, rfl, fun y h => absurd h (Nat.not_lt_zero y), Below.refl _ _⟩
          case round =>
            obtain ⟨u, hu, rfl, hall, hd⟩ := hrel
            have HALL := hid hall; have BL := hid hd; clear hall
            replace RS := hid (RS.out.below hd (Nat.le_refl _))
            replace RN := hid (RN.out.below hd (Nat.le_refl _))
            replace RT := hid (RT.out.below hd (Nat.le_refl _))
            replace B0 := hid (bon B0.out hd)
            clear hd
            by_cases hlu : u < rs.length
            · have hui : (u : Int) < (rs.length : Int) := by omega
              have hui2 : (u : Int) < (qs.length : Int) := by have := HF.out; omega
              have hug : u < (nums rs).length := by rw [nums_length]; exact hlu
              have huq : u < (nums qs).length := by rw [nums_length]; have := HF.out; omega
              obtain ⟨nb, no, rfl, cn⟩ := RN.out u hug
              obtain ⟨sb, so, hsa, cs⟩ := RS.out u huq
              have hats := at_slice tVsets hsa qs.length sc u (by have := HF.out; omega)
              unfold netF at cn cs
              rw [← row_get1 u hug] at cn
              rw [← row_get1 u huq] at cs
              have hHl := (HQ0.out u hug).1
              have hHb := hid (HQ0.out u hug).2
              have hNl := row_mask_lt HG.out u hug
              have hNb := hid (fun i => row_mask_bit HG.out u i hug)
              have HME := hid (mems_maskL (HG.out.inc u hug) (by have := HG.out.le; omega))
              have HRNG := hid (fun v (hv : v ∈ row (nums rs) (u : Int)) => gok_range HG.out (u := (u : Int)) (by omega) (by omega) hv)
              have HBAD := hid (fun (h : ¬ UpAt (nums rs) (nums qs) u) => (show ¬ ImplUp (nums rs) (nums qs) from fun hh => h (hh.at' u hug)))
              have HSUB := hid (show dif (maskL (row (nums qs) (u : Int))) (maskL (row (nums rs) (u : Int))) = 0 ↔ ∀ v ∈ row (nums qs) (u : Int), v ∈ row (nums rs) (u : Int) by
                rw [dif_zero]
                constructor
                · intro h v hv
                  have h0 := (HALLR.out _ (row_mem_of (up := nums qs) (v := u) huq)).1 v hv
                  obtain ⟨n, rfl⟩ := Int.eq_ofNat_of_zero_le h0.1
                  have := h n (by rw [hHb.out]; simpa using hv)
                  rw [hNb.out] at this; simpa using this
                · intro h i hi
                  rw [hHb.out, decide_eq_true_iff] at hi
                  rw [hNb.out, decide_eq_true_iff]
                  exact h _ hi)
              generalize hH : maskL (row (nums qs) (u : Int)) = H at *
              generalize hN : maskL (row (nums rs) (u : Int)) = N at *
              clear hH hN
              generalize hrow : row (nums rs) (u : Int) = l at *
              have HROW := hid hrow; clear hrow
              have hdf := u32_dif H N (by omega) (by omega)
              by_cases h0 : dif H N = 0
              · have d0 : (((dif H N : Nat) : Int) != 0) = false := by rw [h0]; rfl
                have HS1 := hid (HSUB.out.1 h0)
                clear h0
                have HSA := hid hsa; clear hsa
                have csk := cs; clear cs
                go_wp2_with fail
                go_wp2_with fail
                refine (list_any N _ RT.out hNl).mono ?_
                rintro e w4 ⟨v, rfl, ho, hb⟩
                replace RS := hid (RS.out.below hb (Nat.le_refl _))
                replace RN := hid (RN.out.below hb (Nat.le_refl _))
                replace RT := hid (RT.out.below hb (Nat.le_refl _))
                replace B0 := hid (bon B0.out hb)
                replace BL := hid (bon BL.out hb)
                replace csk := cellB hb csk (Nat.le_refl _)
                clear hb
                rw [HME.out] at ho
                obtain ⟨la, lc, rfl, hlr, _⟩ := ho.rd
                have RL := hid hlr; clear hlr ho
                have hll : l.length ≤ 32 := by have := mems_len N; rwa [HME.out] at this
                go_wp2
                obtain ⟨wi, rfl⟩ : ∃ wi, wi = w4 := ⟨_, rfl⟩
                go_loopw [11, 56] (fun _ y wq => ∃ k : Nat, k ≤ l.length ∧ y = .int .i64 k ∧ (∀ i, (h : i < l.length) → i < k → ¬ (l[i] ∈ row (nums qs) (u : Int) ↔ (u : Int) ∈ row (nums qs) l[i])) ∧ Below wi.heap.size wi wq) (fun _ y _ => l.length - (intOf y).toNat)
                case atStart => exact ⟨0, Nat.zero_le _, rfl, fun _ _ h => absurd h (Nat.not_lt_zero _), Below.refl _ _⟩
                case round =>
                  obtain ⟨k, hk, rfl, hno, hd⟩ := hrel
                  have HNO := hid hno; have BK := hid hd; clear hno
                  replace RS := hid (RS.out.below hd (Nat.le_refl _))
                  replace RN := hid (RN.out.below hd (Nat.le_refl _))
                  replace RT := hid (RT.out.below hd (Nat.le_refl _))
                  replace RL := hid (RL.out.below hd (Nat.le_refl _))
                  replace B0 := hid (bon B0.out hd)
                  replace BL := hid (bon BL.out hd)
                  replace csk := cellB hd csk (Nat.le_refl _)
                  clear hd
                  by_cases hlk : k < l.length
                  · obtain ⟨lb, lo, rfl, cl⟩ := RL.out k hlk
                    have hv0 := HRNG.out _ (List.getElem_mem hlk)
                    have hki : (k : Int) < (l.length : Int) := by omega
                    have HSTEP := hid (fun (h1 : ¬ (l[k] ∈ row (nums qs) (u : Int) ↔ (u : Int) ∈ row (nums qs) l[k])) => (show ∀ i, (h : i < l.length) → i < k + 1 → ¬ (l[i] ∈ row (nums qs) (u : Int) ↔ (u : Int) ∈ row (nums qs) l[i]) from fun i hi hik => by
                      rcases Nat.lt_succ_iff_lt_or_eq.1 hik with h3 | rfl
                      · exact HNO.out i hi h3
                      · exact h1))
                    have HYES := hid (fun (h1 : l[k] ∈ row (nums qs) (u : Int) ↔ (u : Int) ∈ row (nums qs) l[k]) => (show ¬ ImplUp (nums rs) (nums qs) from HBAD.out fun hh => hh.2 l[k] (by rw [HROW.out]; exact List.getElem_mem hlk) h1))
                    generalize l[k] = v at *
                    obtain ⟨n, rfl⟩ := Int.eq_ofNat_of_zero_le hv0.1
                    have hng : n < (nums rs).length := by omega
                    have hnq : n < (nums qs).length := by have := HLEN.out; omega
                    rw [nums_length] at hv0
                    have hni : (n : Int) < (qs.length : Int) := by have := HF.out; omega
                    obtain ⟨sb2, so2, hsa2, cs2⟩ := RS.out n hnq
                    have hats2 := at_slice tVsets hsa2 qs.length sc n (by have := HF.out; omega)
                    unfold netF at cs2
                    rw [← row_get1 n hnq] at cs2
                    have HSA2 := hid hsa2; clear hsa2
                    have hKl := (HQ0.out n hng).1
                    have hKb := (HQ0.out n hng).2 u
                    have hHn := hHb.out n
                    generalize maskL (row (nums qs) (n : Int)) = K at *
                    obtain ⟨b1, hb1⟩ : ∃ b1, H.testBit n = b1 := ⟨_, rfl⟩
                    obtain ⟨b2, hb2⟩ : ∃ b2, K.testBit u = b2 := ⟨_, rfl⟩
                    rw [hb1] at hHn; rw [hb2] at hKb
                    have H1 := hid hb1; have H2 := hid hb2; clear hb1 hb2
                    have HEQ := hid (show ((n : Int) ∈ row (nums qs) (u : Int) ↔ (u : Int) ∈ row (nums qs) (n : Int)) ↔ b1 = b2 by
                      rw [hHn, hKb, decide_eq_decide])
                    clear hHn hKb hv0
                    have ccl := cl; have ccs2 := cs2; clear cl cs2
                    by_cases hbb : b1 = b2
                    · have dbe : (b1 == b2) = true := by simpa using hbb
                      have dbd : decide (b1 = b2) = true := by simpa using hbb
                      have HFIN := hid (HYES.out (HEQ.out.2 hbb))
                      clear hbb
                      go_wp2
                      have qcsk := fun (p : Bel _) => cellB p.h csk (Nat.le_refl _)
                      have qccl := fun (p : Bel _) => cellB p.h ccl (Nat.le_refl _)
                      have qccs2 := fun (p : Bel _) => cellB p.h ccs2 (Nat.le_refl _)
                      refine wp_quiet_b (by kernel_rfl) (by kernel_rfl) ?_
                      repeat (go_big_quiet_step (first | (go_at_call_of 162 n; exact qbs (has_b _ _ _ _ H1.out (by omega) (by omega))) | (go_at_call_of 162 u; exact qbs (has_b _ _ _ _ H2.out (by omega) (by omega)))))
                      refine wpQuiet_nil ?_
                      intro _ hw'
                      obtain ⟨⟨w5, hb⟩, rfl⟩ := hw'
                      clear qcsk qccl qccs2
                      replace RS := hid (RS.out.below hb (Nat.le_refl _))
                      replace RN := hid (RN.out.below hb (Nat.le_refl _))
                      replace RT := hid (RT.out.below hb (Nat.le_refl _))
                      replace RL := hid (RL.out.below hb (Nat.le_refl _))
                      replace B0 := hid (bon B0.out hb)
                      replace BL := hid (bon BL.out hb)
                      replace BK := hid (bon BK.out hb)
                      replace csk := cellB hb csk (Nat.le_refl _)
                      replace ccl := cellB hb ccl (Nat.le_refl _)
                      replace ccs2 := cellB hb ccs2 (Nat.le_refl _)
                      clear hb
                      go_wp2
                      go_ret
                      exact ⟨ret_bool (dec_f HB.out HFIN.out), B0.out⟩
                    · have dbe : (b1 == b2) = false := by simpa using hbb
                      have dbd : decide (b1 = b2) = false := by simpa using hbb
                      have HFIN := hid (HSTEP.out fun h => hbb (HEQ.out.1 h))
                      clear hbb
                      go_wp2
                      have qcsk := fun (p : Bel _) => cellB p.h csk (Nat.le_refl _)
                      have qccl := fun (p : Bel _) => cellB p.h ccl (Nat.le_refl _)
                      have qccs2 := fun (p : Bel _) => cellB p.h ccs2 (Nat.le_refl _)
                      refine wp_quiet_b (by kernel_rfl) (by kernel_rfl) ?_
                      repeat (go_big_quiet_step (first | (go_at_call_of 162 n; exact qbs (has_b _ _ _ _ H1.out (by omega) (by omega))) | (go_at_call_of 162 u; exact qbs (has_b _ _ _ _ H2.out (by omega) (by omega)))))
                      refine wpQuiet_nil ?_
                      intro _ hw'
                      obtain ⟨⟨w6, hb⟩, rfl⟩ := hw'
                      clear qcsk qccl qccs2
                      replace RS := hid (RS.out.below hb (Nat.le_refl _))
                      replace RN := hid (RN.out.below hb (Nat.le_refl _))
                      replace RT := hid (RT.out.below hb (Nat.le_refl _))
                      replace RL := hid (RL.out.below hb (Nat.le_refl _))
                      replace B0 := hid (bon B0.out hb)
                      replace BL := hid (bon BL.out hb)
                      replace BK := hid (bon BK.out hb)
                      replace csk := cellB hb csk (Nat.le_refl _)
                      replace ccl := cellB hb ccl (Nat.le_refl _)
                      replace ccs2 := cellB hb ccs2 (Nat.le_refl _)
                      clear hb
                      go_wp2
                      go_roundw
                      case rel => exact ⟨k + 1, by omega, by go_num, HFIN.out, BK.out⟩
                      case measure => simp [intOf]; omega
                  · obtain rfl : k = l.length := by omega
                    have HFIN := hid (show ∀ y : Nat, y < u + 1 → UpAt (nums rs) (nums qs) y from fun y hy => by
                      rcases Nat.lt_succ_iff_lt_or_eq.1 hy with h4 | rfl
                      · exact HALL.out y h4
                      · refine ⟨by rw [HROW.out]; exact HS1.out, fun v hv => ?_⟩
                        rw [HROW.out] at hv
                        obtain ⟨i, hi, rfl⟩ := List.mem_iff_getElem.1 hv
                        exact HNO.out i hi hi)
                    go_wp2
                    go_roundw
                    case rel => exact ⟨u + 1, by omega, by go_num, HFIN.out, BL.out⟩
                    case measure => simp [intOf]; omega
              · have d0 : (((dif H N : Nat) : Int) != 0) = true := by simp; omega
                have HFIN := hid (HBAD.out fun hh => h0 (HSUB.out.2 (by rw [← HROW.out]; exact hh.1)))
                clear h0
                have HSA := hid hsa; clear hsa
                go_wp2
                go_ret
                exact ⟨ret_bool (dec_f HB.out HFIN.out), B0.out⟩
            · obtain rfl : u = rs.length := by omega
              have HFIN := hid (show ImplUp (nums rs) (nums qs) from ⟨HG.out, HLEN.out, HALLR.out, fun u hu => HALL.out u (by rwa [nums_length] at hu)⟩)
              go_wp2
              go_ret
              exact ⟨ret_bool (dec_t HB.out HFIN.out), B0.out⟩
    · have hd : ((qs.length : Int) != (rs.length : Int)) = true := by simp; omega
      have hdn : (qs.length != rs.length) = true := by simpa using hf
      have HFIN := hid (show ¬ ImplUp (nums rs) (nums qs) from fun h => hf (by have := h.len; rwa [nums_length, nums_length] at this))
      clear hf
      go_enter Tryd.func136, Tryd.ntmps136
      go_wp2_with fail
      rw [← HW.out]
      go_wp2_with fail
      refine (implGraphOk_b a rs c _ true h1.out RA.out hn).mono ?_
      rintro e w7 ⟨rfl, hb⟩
      replace RA := hid (RA.out.below hb (Nat.le_refl _))
      replace RQ := hid (RQ.out.below hb (Nat.le_refl _))
      replace RT := hid (RT.out.below hb (Nat.le_refl _))
      replace B0 := hid (bon B0.out hb)
      replace c0 := cellB hb c0 (Nat.le_refl _)
      clear hb
      go_wp2
      go_ret
      exact ⟨ret_bool (dec_f HB.out HFIN.out), B0.out⟩
  · have h1 := hid (show decide (GOk (nums rs)) = false by simpa using hg)
    have HFIN := hid (show ¬ ImplUp (nums rs) (nums qs) from fun h => hg h.ok)
    clear hg
    go_enter Tryd.func136, Tryd.ntmps136
    go_wp2_with fail
    rw [← HW.out]
    go_wp2_with fail
    refine (implGraphOk_b a rs c _ false h1.out RA.out hn).mono ?_
    rintro e w8 ⟨rfl, hb⟩
    replace RA := hid (RA.out.below hb (Nat.le_refl _))
    replace RQ := hid (RQ.out.below hb (Nat.le_refl _))
    replace RT := hid (RT.out.below hb (Nat.le_refl _))
    replace B0 := hid (bon B0.out hb)
    replace c0 := cellB hb c0 (Nat.le_refl _)
    clear hb
    go_wp2
    go_ret
    exact ⟨ret_bool (dec_f HB.out HFIN.out), B0.out⟩
end Go.Proofs.YtahibjikcijnfaaDoor
