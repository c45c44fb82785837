/- BrambleOk: the program's. -/
import Derived.Test.YtalfbldkdlanoaaDoorBram
import Derived.Deep.RegionWith
namespace Go.Proofs.YtalfbldkdlanoaaDoor
open Go.RowKit
theorem OwnM.capN {eo ei : TypeId} {w : World} {B n c : Nat} {a : Option Addr} {rs : List Row} (h : OwnM eo ei w B (.slice a n c) rs) : rs.length ≤ c := by
  obtain ⟨a', c', h1, _, h3, _⟩ := h.rd
  obtain ⟨_, _, rfl⟩ := slice_inj h1
  exact h3
set_option maxHeartbeats 8000000 in
theorem implBrambleOk_b (a : Option Addr) (rs : List Row) (c : Nat) (a' : Option Addr) (qs : List Row) (c' : Nat) (w : World) (b : Bool) (hb : decide (BramP (nums rs) (nums qs)) = b) (hr : RdM w a rs) (hn : Small rs) (hq : RdM w a' qs) (hm : Small qs) (hcap : qs.length ≤ c') (hT : TabOk w) :
    Calls Tryd.prog 79 #[.agg #[.slice a rs.length c], .slice a' qs.length c'] w fun e w' => e = .returned (.bool b) ∧ Below w.heap.size w w' := by
  have RA := hid hr; have RQ := hid hq; have HB := hid hb; have RT := hid hT; clear hr hq hb hT
  have hm1 := hm.1
  obtain ⟨w0, hw0⟩ : ∃ w0, w0 = (w.alloc (.cells #[.slice a rs.length c] 29)) := ⟨_, rfl⟩
  have B0 := hid (show Below w.heap.size w w0 by rw [hw0]; exact ((Below.refl _ _).alloc (Nat.le_refl _) _))
  have c0 : w0.cell? ⟨w.heap.size, 0, none⟩ = some (.slice a rs.length c) := by rw [hw0]; simp [go_sem]
  replace RA := hid (RA.out.below B0.out (Nat.le_refl _))
  replace RQ := hid (RQ.out.below B0.out (Nat.le_refl _))
  replace RT := hid (RT.out.below B0.out (Nat.le_refl _))
  have HW := hid hw0; clear hw0
  by_cases hg : GOk (nums rs)
  · have h1 := hid (show decide (GOk (nums rs)) = true by simpa using hg)
    have HG := hid hg
    clear hg
    by_cases hf : qs.length ≤ 80
    · have hd : decide ((80 : Int) < (qs.length : Int)) = false := by rw [decide_eq_false_iff_not]; omega
      have hdn : decide (80 < qs.length) = false := by rw [decide_eq_false_iff_not]; omega
      go_enter Tryd.func79, Tryd.ntmps79
      go_wp2_with fail
      rw [← HW.out]
      go_wp2_with fail
      refine (implGraphOk_b a rs c _ true h1.out RA.out hn).mono ?_
      rintro e w1 ⟨rfl, hb⟩
      replace RA := hid (RA.out.below hb (Nat.le_refl _))
      replace RQ := hid (RQ.out.below hb (Nat.le_refl _))
      replace RT := hid (RT.out.below hb (Nat.le_refl _))
      replace B0 := hid (bon B0.out hb)
      replace c0 := cellB hb c0 (Nat.le_refl _)
      clear hb
      go_wp2_with fail
      refine (netsOf_any a rs c _ HG.out RA.out hn).mono ?_
      rintro e w2 ⟨v, rfl, hown, hb⟩
      replace RA := hid (RA.out.below hb (Nat.le_refl _))
      replace RQ := hid (RQ.out.below hb (Nat.le_refl _))
      replace RT := hid (RT.out.below hb (Nat.le_refl _))
      replace B0 := hid (bon B0.out hb)
      replace c0 := cellB hb c0 (Nat.le_refl _)
      clear hb
      obtain ⟨na, nc, rfl, hsr, _, _, _, _⟩ := Own.rd (f := netF) hown
      have RN := hid hsr.masks; clear hown hsr
      rw [nums_length]
      obtain ⟨wn, rfl⟩ : ∃ wn, wn = w2 := ⟨_, rfl⟩
      go_wp2
      go_loopw [6, 7, 9, 22] (fun _ _ _ x wr => ∃ i : Nat, i ≤ qs.length ∧ x = .int .i64 i ∧ (∀ j, (h : j < qs.length) → j < i → ConnIn (nums rs) qs[j].z) ∧ (∀ j k, (hk : k < j) → j < i → (h : j < qs.length) → TouchL (nums rs) (qs[k]'(by omega)).z qs[j].z) ∧ Below wn.heap.size wn wr) (fun _ _ _ x _ => qs.length - (intOf x).toNat)
      case atStart => exact ⟨0, Nat.zero_le _, rfl, fun j _ h => absurd h (Nat.not_lt_zero j), fun j _ _ h => absurd h (Nat.not_lt_zero j), Below.refl _ _⟩
      case round =>
        obtain ⟨i, hi, rfl, hcn, htc, hd⟩ := hrel
        have HCN := hid hcn; have HTC := hid htc; have BL := hid hd; clear hcn htc
        replace RA := hid (RA.out.below hd (Nat.le_refl _))
        replace RQ := hid (RQ.out.below hd (Nat.le_refl _))
        replace RT := hid (RT.out.below hd (Nat.le_refl _))
        replace RN := hid (RN.out.below hd (Nat.le_refl _))
        replace B0 := hid (bon B0.out hd)
        replace c0 := cellB hd c0 (Nat.le_refl _)
        clear hd
        by_cases hlt : i < qs.length
        · have hii : (i : Int) < (qs.length : Int) := by omega
          have hic : (i : Int) ≤ (c' : Int) := by omega
          obtain ⟨bq, oq, rfl, ci, hqok⟩ := RQ.out.at i hlt
          have RI := hid hqok.1; clear hqok
          have hzi := hm.2 _ (List.getElem_mem hlt)
          have HBC := hid (fun (h : ¬ ConnIn (nums rs) qs[i].z) => (show ¬ BramP (nums rs) (nums qs) from fun hh => h (hh.conn _ (List.mem_map_of_mem (List.getElem_mem hlt)))))
          have HBT := hid (fun k (hk : k < i) (h : ¬ TouchL (nums rs) (qs[k]'(by omega)).z qs[i].z) => (show ¬ BramP (nums rs) (nums qs) from fun hh => h (by
            have := hh.touch i k hk (by rw [nums_length]; exact hlt)
            rwa [nums_at, nums_at] at this)))
          have HCS := hid (fun (h : ConnIn (nums rs) qs[i].z) => (show ∀ j, (h : j < qs.length) → j < i + 1 → ConnIn (nums rs) qs[j].z from fun j hj hji => by
            rcases Nat.lt_succ_iff_lt_or_eq.1 hji with h3 | rfl
            · exact HCN.out j hj h3
            · exact h))
          have HTS := hid (fun (h : ∀ k, (hk : k < i) → TouchL (nums rs) (qs[k]'(by omega)).z qs[i].z) => (show ∀ j k, (hk : k < j) → j < i + 1 → (h : j < qs.length) → TouchL (nums rs) (qs[k]'(by omega)).z qs[j].z from fun j k hkj hji hj => by
            rcases Nat.lt_succ_iff_lt_or_eq.1 hji with h3 | rfl
            · exact HTC.out j k hkj h3 hj
            · exact h k hkj))
          generalize hq : qs[i] = q at *
          have HQI := hid hq; clear hq
          obtain ⟨b4, hb4⟩ : ∃ b4, decide (ConnIn (nums rs) q.z) = b4 := ⟨_, rfl⟩
          have H4 := hid hb4
          cases b4
          · have HFIN := hid (HBC.out (by simpa using hb4))
            clear hb4
            go_wp2_with fail
            go_wp2_with fail
            refine (implConnectedIn_b a rs c q.a q.z q.c _ _ H4.out RA.out hn RI.out hzi RT.out).mono ?_
            rintro e w3 ⟨rfl, hb⟩
            replace RA := hid (RA.out.below hb (Nat.le_refl _))
            replace RQ := hid (RQ.out.below hb (Nat.le_refl _))
            replace RT := hid (RT.out.below hb (Nat.le_refl _))
            replace RN := hid (RN.out.below hb (Nat.le_refl _))
            replace RI := hid (RI.out.below hb (Nat.le_refl _))
            replace B0 := hid (bon B0.out hb)
            replace BL := hid (bon BL.out hb)
            replace c0 := cellB hb c0 (Nat.le_refl _)
            clear hb
            go_wp2
            go_ret
            exact ⟨ret_bool (dec_f HB.out HFIN.out), B0.out⟩
          · have hconn : ConnIn (nums rs) q.z := by simpa using hb4
            have HC2 := hid (HCS.out hconn)
            have HSQ := hid hconn.1
            have VQ := hid (show ∀ v ∈ q.z, 0 ≤ v ∧ v < 16 from fun v hv => by have := hconn.1.2.1 v hv; have := hconn.1.1.le; omega)
            have HMU := hid (show ∀ u ∈ mems (maskL q.z), 0 ≤ u ∧ u < ((nums rs).map maskL).length by
              rw [List.length_map]; exact mems_under (maskL_lt_len hconn.1.2) hconn.1.1.le)
            clear hb4 hconn
            go_wp2_with fail
            go_wp2_with fail
            refine (implConnectedIn_b a rs c q.a q.z q.c _ _ H4.out RA.out hn RI.out hzi RT.out).mono ?_
            rintro e w4 ⟨rfl, hb⟩
            replace RA := hid (RA.out.below hb (Nat.le_refl _))
            replace RQ := hid (RQ.out.below hb (Nat.le_refl _))
            replace RT := hid (RT.out.below hb (Nat.le_refl _))
            replace RN := hid (RN.out.below hb (Nat.le_refl _))
            replace RI := hid (RI.out.below hb (Nat.le_refl _))
            replace B0 := hid (bon B0.out hb)
            replace BL := hid (bon BL.out hb)
            replace c0 := cellB hb c0 (Nat.le_refl _)
            clear hb
            obtain ⟨wi, rfl⟩ : ∃ wi, wi = w4 := ⟨_, rfl⟩
            go_wp2
            go_loopw [9, 35] (fun _ y wq => ∃ k : Nat, k ≤ i ∧ y = .int .i64 k ∧ (∀ j, (h : j < k) → (hji : j < i) → TouchL (nums rs) (qs[j]'(by omega)).z q.z) ∧ Below wi.heap.size wi wq) (fun _ y _ => i - (intOf y).toNat)
            case atStart => exact ⟨0, Nat.zero_le _, rfl, fun j h => absurd h (Nat.not_lt_zero j), Below.refl _ _⟩
            case round =>
              obtain ⟨k, hk, rfl, htk, hd⟩ := hrel
              have HTK := hid htk; have BK := hid hd; clear htk
              replace RA := hid (RA.out.below hd (Nat.le_refl _))
              replace RQ := hid (RQ.out.below hd (Nat.le_refl _))
              replace RT := hid (RT.out.below hd (Nat.le_refl _))
              replace RN := hid (RN.out.below hd (Nat.le_refl _))
              replace RI := hid (RI.out.below hd (Nat.le_refl _))
              replace B0 := hid (bon B0.out hd)
              replace BL := hid (bon BL.out hd)
              replace c0 := cellB hd c0 (Nat.le_refl _)
              clear hd
              by_cases hlk : k < i
              · have hki : (k : Int) < (i : Int) := by omega
                have hkq : (k : Int) < (qs.length : Int) := by omega
                have hkl : k < qs.length := by omega
                obtain ⟨bq2, oq2, hqa2, ck, hqok2⟩ := RQ.out.at k hkl
                obtain ⟨rfl, rfl⟩ : bq = bq2 ∧ oq = oq2 := by simp at hqa2; exact hqa2
                have RK := hid hqok2.1; clear hqok2 hqa2
                have hzk := hm.2 _ (List.getElem_mem hkl)
                have HSP := hid (HCN.out k hkl hlk).1
                have HNT := hid (HBT.out k hlk)
                have HST := hid (fun (h : TouchL (nums rs) qs[k].z q.z) => (show ∀ j, (h : j < k + 1) → (hji : j < i) → TouchL (nums rs) (qs[j]'(by omega)).z q.z from fun j hj hji => by
                  rcases Nat.lt_succ_iff_lt_or_eq.1 hj with h3 | rfl
                  · exact HTK.out j h3 hji
                  · exact h))
                generalize qs[k] = p at *
                have VP := hid (show ∀ v ∈ p.z, 0 ≤ v ∧ v < 16 from fun v hv => by have := HSP.out.2.1 v hv; have := HSP.out.1.le; omega)
                obtain ⟨b5, hb5⟩ : ∃ b5, decide (TouchL (nums rs) p.z q.z) = b5 := ⟨_, rfl⟩
                have H5 := hid (show decide (TouchM ((nums rs).map maskL) (maskL q.z) (maskL p.z)) = b5 by
                  rw [← hb5, decide_eq_decide, touch_iff HSQ.out HSP.out, touch_sym HSQ.out HSP.out])
                have hq := fun W (hT : TabOk W) (hR : Rd maskF W na ((nums rs).map maskL)) => touches_b na ((nums rs).map maskL) nc (maskL q.z) (maskL p.z) W _ H5.out hT hR (in16_of HG.out) (maskL_lt q.z 16 VQ.out) (maskL_lt p.z 16 VP.out) HMU.out
                rw [List.length_map, nums_length] at hq
                have HQ := hid hq; clear hq
                cases b5
                · have HFIN := hid (HNT.out (by simpa using hb5))
                  clear hb5
                  go_wp2_with (first | (go_at_call_of 84 q; refine (maskOf_any _ _ _ _ RI.out hzi VQ.out).mono ?_; rintro e w' ⟨rfl, rfl⟩) | (go_at_call_of 84 p; refine (maskOf_any _ _ _ _ RK.out hzk VP.out).mono ?_; rintro e w' ⟨rfl, rfl⟩) | (go_at_call 83; refine (HQ.out _ RT.out RN.out).mono ?_; rintro e w9 ⟨rfl, hb⟩; have B9 := hid (bon B0.out hb); clear hb))
                  go_ret
                  exact ⟨ret_bool (dec_f HB.out HFIN.out), B9.out⟩
                · have HFIN := hid (HST.out (by simpa using hb5))
                  clear hb5
                  go_wp2_with (first | (go_at_call_of 84 q; refine (maskOf_any _ _ _ _ RI.out hzi VQ.out).mono ?_; rintro e w' ⟨rfl, rfl⟩) | (go_at_call_of 84 p; refine (maskOf_any _ _ _ _ RK.out hzk VP.out).mono ?_; rintro e w' ⟨rfl, rfl⟩) | (go_at_call 83; refine (HQ.out _ RT.out RN.out).mono ?_; rintro e w9 ⟨rfl, hb⟩; have B9 := hid (bon BK.out hb); clear hb))
                  go_roundw
                  case rel => exact ⟨k + 1, by omega, by go_num, HFIN.out, B9.out⟩
                  case measure => simp [intOf]; omega
              · obtain rfl : k = i := by omega
                have HFIN := hid (HTS.out fun j hj => HTK.out j hj hj)
                go_wp2
                go_roundw
                case rel => exact ⟨k + 1, by omega, by go_num, HC2.out, HFIN.out, BL.out⟩
                case measure => simp [intOf]; omega
        · obtain rfl : i = qs.length := by omega
          have HFIN := hid (show BramP (nums rs) (nums qs) from ⟨HG.out, by rw [nums_length]; exact hf, fun s hs => by
            obtain ⟨q, hq, rfl⟩ := List.mem_map.1 hs
            obtain ⟨j, hj, rfl⟩ := List.mem_iff_getElem.1 hq
            exact HCN.out j hj hj, fun j k hk hj => by
            rw [nums_at, nums_at]
            rw [nums_length] at hj
            exact HTC.out j k hk hj hj⟩)
          go_wp2
          go_ret
          exact ⟨ret_bool (dec_t HB.out HFIN.out), B0.out⟩
    · have hd : decide ((80 : Int) < (qs.length : Int)) = true := by rw [decide_eq_true_iff]; omega
      have hdn : decide (80 < qs.length) = true := by rw [decide_eq_true_iff]; omega
      have HFIN := hid (show ¬ BramP (nums rs) (nums qs) from fun h => hf (by have := h.few; rwa [nums_length] at this))
      clear hf
      go_enter Tryd.func79, Tryd.ntmps79
      go_wp2_with fail
      rw [← HW.out]
      go_wp2_with fail
      refine (implGraphOk_b a rs c _ true h1.out RA.out hn).mono ?_
      rintro e w5 ⟨rfl, hb⟩
      replace RA := hid (RA.out.below hb (Nat.le_refl _))
      replace RQ := hid (RQ.out.below hb (Nat.le_refl _))
      replace RT := hid (RT.out.below hb (Nat.le_refl _))
      replace B0 := hid (bon B0.out hb)
      replace c0 := cellB hb c0 (Nat.le_refl _)
      clear hb
      go_wp2
      go_ret
      exact ⟨ret_bool (dec_f HB.out HFIN.out), B0.out⟩
  · have h1 := hid (show decide (GOk (nums rs)) = false by simpa using hg)
    have HFIN := hid (show ¬ BramP (nums rs) (nums qs) from fun h => hg h.ok)
    clear hg
    go_enter Tryd.func79, Tryd.ntmps79
    go_wp2_with fail
    rw [← HW.out]
    go_wp2_with fail
    refine (implGraphOk_b a rs c _ false h1.out RA.out hn).mono ?_
    rintro e w6 ⟨rfl, hb⟩
    replace RA := hid (RA.out.below hb (Nat.le_refl _))
    replace RQ := hid (RQ.out.below hb (Nat.le_refl _))
    replace RT := hid (RT.out.below hb (Nat.le_refl _))
    replace B0 := hid (bon B0.out hb)
    replace c0 := cellB hb c0 (Nat.le_refl _)
    clear hb
    go_wp2
    go_ret
    exact ⟨ret_bool (dec_f HB.out HFIN.out), B0.out⟩
end Go.Proofs.YtalfbldkdlanoaaDoor
