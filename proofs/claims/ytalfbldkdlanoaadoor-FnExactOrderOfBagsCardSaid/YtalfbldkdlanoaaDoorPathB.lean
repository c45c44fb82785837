/- PathBagsOk: the reference's. -/
import Derived.Test.YtalfbldkdlanoaaDoorWhole
import Derived.Test.YtalfbldkdlanoaaDoorSetOk
import Derived.Test.YtalfbldkdlanoaaDoorTrailM
namespace Go.Proofs.YtalfbldkdlanoaaDoor
open Go.RowKit
/-- Some bag holds both. -/
def Together (g : List (List Int)) (u v : Int) : Prop := ∃ i, i < g.length ∧ inBag g u i = true ∧ inBag g v i = true
noncomputable instance (g : List (List Int)) (u v : Int) : Decidable (Together g u v) := Classical.propDecidable _
set_option maxHeartbeats 4000000 in
theorem l12Bag_b (a : Option Addr) (rs : List Row) (c : Nat) (u v : Int) (w : World) (b : Bool) (hb : decide (Together (nums rs) u v) = b) (hr : RdM w a rs) (hn : Small rs) :
    Calls Tryd.prog 126 #[.slice a rs.length c, .int .i64 u, .int .i64 v] w fun e w' => e = .returned (.bool b) ∧ w = w' := by
  have RA := hid hr; have HB := hid hb; clear hr hb
  have hn1 := hn.1
  go_enter Tryd.func126, Tryd.ntmps126
  go_wp2
  go_loop [7] (fun i => ∃ k : Nat, k ≤ rs.length ∧ i = .int .i64 k ∧ ∀ j, j < k → ¬ (inBag (nums rs) u j = true ∧ inBag (nums rs) v j = true)) (fun i => rs.length - (intOf i).toNat)
  case atStart => exact ⟨0, Nat.zero_le _, rfl, fun j h => absurd h (Nat.not_lt_zero j)⟩
  case round =>
    obtain ⟨k, hk, rfl, hno⟩ := hrel
    have HNO := hid hno; clear hno
    by_cases hlt : k < rs.length
    · obtain ⟨b', o, rfl, hc, hok⟩ := RA.out.at k hlt
      have RK := hid hok.1; clear hok
      have hz := Nat.le_trans (hn.2 _ (List.getElem_mem hlt)) (show 1048576 ≤ 16777216 by decide)
      have HU := hid (inBag_rs rs u k hlt)
      have HV := hid (inBag_rs rs v k hlt)
      generalize rs[k] = r at *
      have hi0 : (k : Int) < (rs.length : Int) := by omega
      obtain ⟨b4, hb4⟩ : ∃ b4, decide (u ∈ r.z) = b4 := ⟨_, rfl⟩
      obtain ⟨b5, hb5⟩ : ∃ b5, decide (v ∈ r.z) = b5 := ⟨_, rfl⟩
      have H4 := hid hb4; have H5 := hid hb5
      rw [hb4] at HU; rw [hb5] at HV
      clear hb4 hb5
      have HSTEP := hid (fun (h : ¬ (b4 = true ∧ b5 = true)) => (show ∀ j, j < k + 1 → ¬ (inBag (nums rs) u j = true ∧ inBag (nums rs) v j = true) from fun j hj => by
        rcases Nat.lt_succ_iff_lt_or_eq.1 hj with h5 | rfl
        · exact HNO.out j h5
        · rw [HU.out, HV.out]; exact h))
      cases b4
      · have HS := hid (HSTEP.out (by simp))
        go_wp2_with (first | (go_at_call 72; refine (l1Has_b _ _ _ _ _ _ H4.out RK.out hz).mono ?_; rintro e w' ⟨rfl, rfl⟩))
        go_round
        case rel => exact ⟨k + 1, by omega, by go_num, HS.out⟩
        case measure => simp [intOf]; omega
      · cases b5
        · have HS := hid (HSTEP.out (by simp))
          go_wp2_with fail
          refine (l1Has_b _ _ _ _ _ _ H4.out RK.out hz).mono ?_
          rintro e w' ⟨rfl, rfl⟩
          go_wp2_with fail
          refine (l1Has_b _ _ _ _ _ _ H5.out RK.out hz).mono ?_
          rintro e w' ⟨rfl, rfl⟩
          go_wp2
          go_round
          case rel => exact ⟨k + 1, by omega, by go_num, HS.out⟩
          case measure => simp [intOf]; omega
        · have HFIN := hid (show Together (nums rs) u v from ⟨k, by rw [nums_length_w]; exact hlt, HU.out, HV.out⟩)
          go_wp2_with fail
          refine (l1Has_b _ _ _ _ _ _ H4.out RK.out hz).mono ?_
          rintro e w' ⟨rfl, rfl⟩
          go_wp2_with fail
          refine (l1Has_b _ _ _ _ _ _ H5.out RK.out hz).mono ?_
          rintro e w' ⟨rfl, rfl⟩
          go_wp2
          go_ret
          exact ⟨ret_bool (dec_t HB.out HFIN.out), rfl⟩
    · obtain rfl : k = rs.length := by omega
      have HFIN := hid (show ¬ Together (nums rs) u v from fun ⟨i, hi, h⟩ => HNO.out i (by rwa [nums_length_w] at hi) h)
      go_wp2
      go_ret
      exact ⟨ret_bool (dec_f HB.out HFIN.out), rfl⟩
structure PathP (g bags : List (List Int)) : Prop where
  ok : GOk g
  few : bags.length ≤ 16
  rows : ∀ b ∈ bags, b ≠ [] ∧ Inc g.length b
  whole : ∀ v : Nat, v < g.length → WholeP bags v
  cover : ∀ v : Nat, v < g.length → ∀ u ∈ row g (v : Int), Together bags v u
noncomputable instance (g bags : List (List Int)) : Decidable (PathP g bags) := Classical.propDecidable _
set_option maxHeartbeats 4000000 in
theorem specPathBagsOk_b (a : Option Addr) (rs : List Row) (c : Nat) (a' : Option Addr) (qs : List Row) (c' : Nat) (w : World) (b : Bool) (hb : decide (PathP (nums rs) (nums qs)) = b) (hr : RdM w a rs) (hn : Small rs) (hq : RdM w a' qs) (hm : Small qs) :
    Calls Tryd.prog 71 #[.agg #[.slice a rs.length c], .slice a' qs.length c'] w fun e w' => e = .returned (.bool b) ∧ Below w.heap.size w w' := by
  have RA := hid hr; have RQ := hid hq; have HB := hid hb; clear hr hq hb
  have hm1 := hm.1
  obtain ⟨w0, hw0⟩ : ∃ w0, w0 = (w.alloc (.cells #[.slice a rs.length c] 29)) := ⟨_, rfl⟩
  have B0 := hid (show Below w.heap.size w w0 by rw [hw0]; exact ((Below.refl _ _).alloc (Nat.le_refl _) _))
  have c0 : w0.cell? ⟨w.heap.size, 0, none⟩ = some (.slice a rs.length c) := by rw [hw0]; simp [go_sem]
  replace RA := hid (RA.out.below B0.out (Nat.le_refl _))
  replace RQ := hid (RQ.out.below B0.out (Nat.le_refl _))
  have HW := hid hw0; clear hw0
  by_cases hg : GOk (nums rs)
  · have h1 := hid (show decide (GOk (nums rs)) = true by simpa using hg)
    have HG := hid hg
    have h16 : rs.length ≤ 16 := by have := hg.le; rwa [nums_length] at this
    clear hg
    by_cases hf : qs.length ≤ 16
    · have hd : decide ((16 : Int) < (qs.length : Int)) = false := by rw [decide_eq_false_iff_not]; omega
      have hdn : decide (16 < qs.length) = false := by rw [decide_eq_false_iff_not]; omega
      go_enter Tryd.func71, Tryd.ntmps71
      go_wp2_with fail
      rw [← HW.out]
      go_wp2_with fail
      refine (specGraphOk_b a rs c _ true h1.out RA.out hn).mono ?_
      rintro e w1 ⟨rfl, hb⟩
      replace RA := hid (RA.out.below hb (Nat.le_refl _))
      replace RQ := hid (RQ.out.below hb (Nat.le_refl _))
      replace B0 := hid (bon B0.out hb)
      replace c0 := cellB hb c0 (Nat.le_refl _)
      clear hb
      go_wp2
      go_loopw [5] (fun i wr => ∃ k : Nat, k ≤ qs.length ∧ i = .int .i64 k ∧ (∀ j, (hj : j < qs.length) → j < k → qs[j].z ≠ [] ∧ Inc rs.length qs[j].z) ∧ Below w1.heap.size w1 wr) (fun i _ => qs.length - (intOf i).toNat)
      case atStart => exact ⟨0, Nat.zero_le _, rfl, fun j _ h => absurd h (Nat.not_lt_zero j), Below.refl _ _⟩
      case round =>
        obtain ⟨k, hk, rfl, hrows, hd⟩ := hrel
        have HROWS := hid hrows; clear hrows
        have BL := hid hd
        replace RA := hid (RA.out.below hd (Nat.le_refl _))
        replace RQ := hid (RQ.out.below hd (Nat.le_refl _))
        replace B0 := hid (bon B0.out hd)
        replace c0 := cellB hd c0 (Nat.le_refl _)
        clear hd
        by_cases hlt : k < qs.length
        · obtain ⟨b', o, rfl, cc, hok⟩ := RQ.out.at k hlt
          have RK := hid hok.1; clear hok
          have hz := hm.2 _ (List.getElem_mem hlt)
          have HOK := hid (fun (h1 : qs[k].z ≠ []) (h2 : Inc rs.length qs[k].z) => (show ∀ j, (hj : j < qs.length) → j < k + 1 → qs[j].z ≠ [] ∧ Inc rs.length qs[j].z from fun j hj hjk => by
            rcases Nat.lt_succ_iff_lt_or_eq.1 hjk with h3 | rfl
            · exact HROWS.out j hj h3
            · exact ⟨h1, h2⟩))
          have HNO := hid (fun (h : ¬ (qs[k].z ≠ [] ∧ Inc rs.length qs[k].z)) => (show ¬ PathP (nums rs) (nums qs) from fun hh => h (by have := hh.rows _ (List.mem_map.2 ⟨qs[k], List.getElem_mem hlt, rfl⟩); rwa [nums_length] at this)))
          generalize qs[k] = q at *
          have hi0 : (k : Int) < (qs.length : Int) := by omega
          obtain ⟨bi, hbi⟩ : ∃ bi, decide (SetP (nums rs) q.z) = bi := ⟨_, rfl⟩
          have HI := hid hbi
          cases bi
          · have HFIN := hid (HNO.out fun h => by have : SetP (nums rs) q.z := ⟨HG.out, by rw [nums_length]; exact h.2⟩; simp [this] at hbi)
            clear hbi
            go_wp2
            have qc0 := fun (p : Bel _) => cellB p.h c0 (Nat.le_refl _)
            have qcc := fun (p : Bel _) => cellB p.h cc (Nat.le_refl _)
            refine wp_quiet_b (by kernel_rfl) (by kernel_rfl) ?_
            repeat (go_big_quiet_step (first | (go_at_call 124; exact qb (specSetOk_b _ _ _ _ _ _ _ _ HI.out (RA.out.bel _) hn (RK.out.bel _) hz))))
            refine wpQuiet_nil ?_
            intro _ hw'
            obtain ⟨⟨w2, hb⟩, rfl⟩ := hw'
            clear qc0 qcc
            replace RA := hid (RA.out.below hb (Nat.le_refl _))
            replace RQ := hid (RQ.out.below hb (Nat.le_refl _))
            replace RK := hid (RK.out.below hb (Nat.le_refl _))
            replace B0 := hid (bon B0.out hb)
            replace BL := hid (bon BL.out hb)
            replace c0 := cellB hb c0 (Nat.le_refl _)
            replace cc := cellB hb cc (Nat.le_refl _)
            clear hb
            go_wp2
            go_ret
            exact ⟨ret_bool (dec_f HB.out HFIN.out), B0.out⟩
          · have hsp : SetP (nums rs) q.z := by simpa using hbi
            clear hbi
            have hinc := hsp.2
            rw [nums_length] at hinc
            by_cases h0 : q.z = []
            · have e0 : ((q.z.length : Int) == 0) = true := by rw [h0]; rfl
              have e0n : (q.z.length == 0) = true := by rw [h0]; rfl
              have HFIN := hid (HNO.out fun h => h.1 h0)
              clear h0 hinc hsp
              go_wp2
              have qc0 := fun (p : Bel _) => cellB p.h c0 (Nat.le_refl _)
              have qcc := fun (p : Bel _) => cellB p.h cc (Nat.le_refl _)
              refine wp_quiet_b (by kernel_rfl) (by kernel_rfl) ?_
              repeat (go_big_quiet_step (first | (go_at_call 124; exact qb (specSetOk_b _ _ _ _ _ _ _ _ HI.out (RA.out.bel _) hn (RK.out.bel _) hz))))
              refine wpQuiet_nil ?_
              intro _ hw'
              obtain ⟨⟨w3, hb⟩, rfl⟩ := hw'
              clear qc0 qcc
              replace RA := hid (RA.out.below hb (Nat.le_refl _))
              replace RQ := hid (RQ.out.below hb (Nat.le_refl _))
              replace RK := hid (RK.out.below hb (Nat.le_refl _))
              replace B0 := hid (bon B0.out hb)
              replace BL := hid (bon BL.out hb)
              replace c0 := cellB hb c0 (Nat.le_refl _)
              replace cc := cellB hb cc (Nat.le_refl _)
              clear hb
              go_wp2
              go_ret
              exact ⟨ret_bool (dec_f HB.out HFIN.out), B0.out⟩
            · have hpos : 0 < q.z.length := List.length_pos_iff.2 h0
              have e0 : ((q.z.length : Int) == 0) = false := by rw [beq_eq_false_iff_ne]; omega
              have e0n : (q.z.length == 0) = false := by rw [beq_eq_false_iff_ne]; omega
              have e0d : decide (q.z = []) = false := by simpa using h0
              have HFIN := hid (HOK.out h0 hinc)
              have H0 := hid h0
              clear h0 hinc hsp
              go_wp2
              have qc0 := fun (p : Bel _) => cellB p.h c0 (Nat.le_refl _)
              have qcc := fun (p : Bel _) => cellB p.h cc (Nat.le_refl _)
              refine wp_quiet_b (by kernel_rfl) (by kernel_rfl) ?_
              repeat (go_big_quiet_step (first | (go_at_call 124; exact qb (specSetOk_b _ _ _ _ _ _ _ _ HI.out (RA.out.bel _) hn (RK.out.bel _) hz))))
              refine wpQuiet_nil ?_
              intro _ hw'
              obtain ⟨⟨w4, hb⟩, rfl⟩ := hw'
              clear qc0 qcc
              replace RA := hid (RA.out.below hb (Nat.le_refl _))
              replace RQ := hid (RQ.out.below hb (Nat.le_refl _))
              replace RK := hid (RK.out.below hb (Nat.le_refl _))
              replace B0 := hid (bon B0.out hb)
              replace BL := hid (bon BL.out hb)
              replace c0 := cellB hb c0 (Nat.le_refl _)
              replace cc := cellB hb cc (Nat.le_refl _)
              clear hb
              go_wp2
              go_roundw
              case rel => exact ⟨k + 1, by omega, by go_num, HFIN.out, BL.out⟩
              case measure => simp [intOf]; omega
        · obtain rfl : k = qs.length := by omega
          obtain ⟨w2, rfl⟩ : ∃ w2, w2 = wr := ⟨_, rfl⟩
          have HALLR := hid (show ∀ b ∈ nums qs, b ≠ [] ∧ Inc (nums rs).length b from fun b hb => by
            obtain ⟨q, hq, rfl⟩ := List.mem_map.1 hb
            obtain ⟨j, hj, rfl⟩ := List.mem_iff_getElem.1 hq
            rw [nums_length]; exact HROWS.out j hj hj)
          go_wp2
          go_loop [6, 7] (fun x _ => ∃ v : Nat, v ≤ rs.length ∧ x = .int .i64 v ∧ ∀ y : Nat, y < v → WholeP (nums qs) y ∧ ∀ u ∈ row (nums rs) (y : Int), Together (nums qs) y u) (fun x _ => rs.length - (intOf x).toNat)
          case atStart => exact ⟨0, Nat.zero_le _, rfl, fun y h => absurd h (Nat.not_lt_zero y)⟩
          case round =>
            obtain ⟨v, hv, rfl, hall⟩ := hrel
            have HALL := hid hall; clear hall
            by_cases hlv : v < rs.length
            · obtain ⟨bw, hbw⟩ : ∃ bw, decide (WholeP (nums qs) (v : Int)) = bw := ⟨_, rfl⟩
              have HBW := hid hbw
              cases bw
              · have HFIN := hid (show ¬ PathP (nums rs) (nums qs) from fun h => by
                  have := h.whole v (by rw [nums_length]; exact hlv)
                  simp [this] at hbw)
                clear hbw
                go_wp2_with (first | (go_at_call 125; refine (l12Whole_b _ _ _ _ _ _ HBW.out RQ.out hm).mono ?_; rintro e w' ⟨rfl, rfl⟩))
                go_ret
                exact ⟨ret_bool (dec_f HB.out HFIN.out), B0.out⟩
              · have HWH := hid (show WholeP (nums qs) (v : Int) by simpa using hbw)
                clear hbw
                obtain ⟨b', o, rfl, cc, hok⟩ := RA.out.at v hlv
                have RK := hid hok.1; clear hok
                have HRW := hid (row_rs rs v hlv)
                have hzr := hn.2 _ (List.getElem_mem hlv)
                generalize rs[v] = r at *
                have hi0 : (v : Int) < (rs.length : Int) := by omega
                go_wp2_with fail
                refine (l12Whole_b _ _ _ _ _ _ HBW.out RQ.out hm).mono ?_
                rintro e w' ⟨rfl, rfl⟩
                go_wp2
                go_loop [7] (fun x => ∃ k : Nat, k ≤ r.z.length ∧ x = .int .i64 k ∧ ∀ j, (hj : j < r.z.length) → j < k → Together (nums qs) v r.z[j]) (fun x => r.z.length - (intOf x).toNat)
                case atStart => exact ⟨0, Nat.zero_le _, rfl, fun j _ h => absurd h (Nat.not_lt_zero j)⟩
                case round =>
                  obtain ⟨k, hk, rfl, htog⟩ := hrel
                  have HTOG := hid htog; clear htog
                  by_cases hlk : k < r.z.length
                  · obtain ⟨b3, o3, ha3, c3⟩ := RK.out k hlk
                    have hat := at_slice tI64 ha3 r.z.length r.c k hlk
                    have HA3 := hid ha3; clear ha3
                    have hi1 : (k : Int) < (r.z.length : Int) := by omega
                    obtain ⟨bt, hbt⟩ : ∃ bt, decide (Together (nums qs) (v : Int) r.z[k]) = bt := ⟨_, rfl⟩
                    have HBT := hid hbt
                    cases bt
                    · have HFIN := hid (show ¬ PathP (nums rs) (nums qs) from fun h => by
                        have := h.cover v (by rw [nums_length]; exact hlv) r.z[k] (by rw [HRW.out]; exact List.getElem_mem hlk)
                        simp [this] at hbt)
                      clear hbt
                      go_wp2_with (first | (go_at_call 126; refine (l12Bag_b _ _ _ _ _ _ _ HBT.out RQ.out hm).mono ?_; rintro e w' ⟨rfl, rfl⟩))
                      go_ret
                      exact ⟨ret_bool (dec_f HB.out HFIN.out), B0.out⟩
                    · have HS := hid (show ∀ j, (hj : j < r.z.length) → j < k + 1 → Together (nums qs) v r.z[j] from fun j hj hjk => by
                        rcases Nat.lt_succ_iff_lt_or_eq.1 hjk with h3 | rfl
                        · exact HTOG.out j hj h3
                        · simpa using hbt)
                      clear hbt
                      go_wp2_with (first | (go_at_call 126; refine (l12Bag_b _ _ _ _ _ _ _ HBT.out RQ.out hm).mono ?_; rintro e w' ⟨rfl, rfl⟩))
                      go_round
                      case rel => exact ⟨k + 1, by omega, by go_num, HS.out⟩
                      case measure => simp [intOf]; omega
                  · obtain rfl : k = r.z.length := by omega
                    have HS := hid (show ∀ y : Nat, y < v + 1 → WholeP (nums qs) y ∧ ∀ u ∈ row (nums rs) (y : Int), Together (nums qs) y u from fun y hy => by
                      rcases Nat.lt_succ_iff_lt_or_eq.1 hy with h3 | rfl
                      · exact HALL.out y h3
                      · refine ⟨HWH.out, fun u hu => ?_⟩
                        rw [HRW.out] at hu
                        obtain ⟨j, hj, rfl⟩ := List.mem_iff_getElem.1 hu
                        exact HTOG.out j hj hj)
                    go_wp2
                    go_round
                    case rel => exact ⟨v + 1, by omega, by go_num, HS.out⟩
                    case measure => simp [intOf]; omega
            · obtain rfl : v = rs.length := by omega
              have HFIN := hid (show PathP (nums rs) (nums qs) from ⟨HG.out, by rw [nums_length]; exact hf, HALLR.out, fun v hv => (HALL.out v (by rwa [nums_length] at hv)).1, fun v hv => (HALL.out v (by rwa [nums_length] at hv)).2⟩)
              go_wp2
              go_ret
              exact ⟨ret_bool (dec_t HB.out HFIN.out), B0.out⟩
    · have hd : decide ((16 : Int) < (qs.length : Int)) = true := by rw [decide_eq_true_iff]; omega
      have hdn : decide (16 < qs.length) = true := by rw [decide_eq_true_iff]; omega
      have HFIN := hid (show ¬ PathP (nums rs) (nums qs) from fun h => hf (by have := h.few; rwa [nums_length] at this))
      clear hf
      go_enter Tryd.func71, Tryd.ntmps71
      go_wp2_with fail
      rw [← HW.out]
      go_wp2_with fail
      refine (specGraphOk_b a rs c _ true h1.out RA.out hn).mono ?_
      rintro e w5 ⟨rfl, hb⟩
      replace RA := hid (RA.out.below hb (Nat.le_refl _))
      replace RQ := hid (RQ.out.below hb (Nat.le_refl _))
      replace B0 := hid (bon B0.out hb)
      replace c0 := cellB hb c0 (Nat.le_refl _)
      clear hb
      go_wp2
      go_ret
      exact ⟨ret_bool (dec_f HB.out HFIN.out), B0.out⟩
  · have h1 := hid (show decide (GOk (nums rs)) = false by simpa using hg)
    have HFIN := hid (show ¬ PathP (nums rs) (nums qs) from fun h => hg h.ok)
    clear hg
    go_enter Tryd.func71, Tryd.ntmps71
    go_wp2_with fail
    rw [← HW.out]
    go_wp2_with fail
    refine (specGraphOk_b a rs c _ false h1.out RA.out hn).mono ?_
    rintro e w6 ⟨rfl, hb⟩
    replace RA := hid (RA.out.below hb (Nat.le_refl _))
    replace RQ := hid (RQ.out.below hb (Nat.le_refl _))
    replace B0 := hid (bon B0.out hb)
    replace c0 := cellB hb c0 (Nat.le_refl _)
    clear hb
    go_wp2
    go_ret
    exact ⟨ret_bool (dec_f HB.out HFIN.out), B0.out⟩
end Go.Proofs.YtalfbldkdlanoaaDoor
