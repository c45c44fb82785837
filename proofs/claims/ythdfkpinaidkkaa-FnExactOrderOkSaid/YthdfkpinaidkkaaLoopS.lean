/- LoopOk: the reference's. -/
import Derived.Test.YthdfkpinaidkkaaSetOk
import Derived.Test.YthdfkpinaidkkaaTrailM
import Derived.Test.YthdfkpinaidkkaaQuiet
namespace Go.Proofs.Ythdfkpinaidkkaa
open Go.RowKit

theorem l1Has_take (a : Option Addr) (zs : List Int) (c k : Nat) (x : Int) (w : World) (b : Bool) (hk : k ≤ zs.length) (hb : decide (x ∈ zs.take k) = b) (hr : Rd (Value.int .i64) w a zs) (hn : zs.length ≤ 16777216) :
    Calls Try.prog 73 #[.slice a k c, .int .i64 x] w fun e w' => e = .returned (.bool b) ∧ w = w' := by
  have h1 : (zs.take k).length = k := by simp; omega
  have := l1Has_b a (zs.take k) c x w b hb (hr.take k) (by omega)
  rwa [h1] at this
set_option maxHeartbeats 4000000 in
theorem l3Path_b (a : Option Addr) (rs : List Row) (c : Nat) (a' : Option Addr) (zs : List Int) (c' : Nat) (w : World) (b : Bool) (hb : decide (TrailTo (nums rs) zs zs.length) = b) (hg : GOk (nums rs)) (hr : RdM w a rs) (hn : Small rs) (hz : Rd (Value.int .i64) w a' zs) (hm : zs.length ≤ 16777216) (hc' : zs.length ≤ c') :
    Calls Try.prog 78 #[.agg #[.slice a rs.length c], .slice a' zs.length c'] w fun e w' => e = .returned (.bool b) ∧ Below w.heap.size w w' := by
  have RA := hid hr; have RZ := hid hz; have HB := hid hb; clear hr hz hb
  have HG := hid hg; clear hg
  obtain ⟨w0, hw0⟩ : ∃ w0, w0 = (w.alloc (.cells #[.slice a rs.length c] 27)) := ⟨_, rfl⟩
  have B0 := hid (show Below w.heap.size w w0 by rw [hw0]; exact ((Below.refl _ _).alloc (Nat.le_refl _) _))
  have c0 : w0.cell? ⟨w.heap.size, 0, none⟩ = some (.slice a rs.length c) := by rw [hw0]; simp [go_sem]
  replace RA := hid (RA.out.below B0.out (Nat.le_refl _))
  replace RZ := hid (RZ.out.below B0.out (Nat.le_refl _))
  have HW := hid hw0; clear hw0
  go_enter Try.func78, Try.ntmps78
  go_wp2
  rw [← HW.out]
  go_loopw [5] (fun i wr => ∃ k : Nat, k ≤ zs.length ∧ i = .int .i64 k ∧ TrailTo (nums rs) zs k ∧ Below w0.heap.size w0 wr) (fun i _ => zs.length - (intOf i).toNat)
  case atStart => exact ⟨0, Nat.zero_le _, rfl, trail_zero _ _, Below.refl _ _⟩
  case round =>
    obtain ⟨k, hk, rfl, ht, hd⟩ := hrel
    have HT := hid ht; clear ht
    have BL := hid hd
    replace RA := hid (RA.out.below hd (Nat.le_refl _))
    replace RZ := hid (RZ.out.below hd (Nat.le_refl _))
    replace B0 := hid (bon B0.out hd)
    replace c0 := cellB hd c0 (Nat.le_refl _)
    clear hd
    by_cases hlt : k < zs.length
    · obtain ⟨b', off, rfl, hc⟩ := RZ.out k hlt
      have HGE := hid (getD_eq zs k hlt)
      have hi0 : (k : Int) < (zs.length : Int) := by omega
      have HNOT := hid (fun h : ¬ TrailTo (nums rs) zs (k + 1) => (show ¬ TrailTo (nums rs) zs zs.length from fun hh => h (fun i hi => hh i (by omega))))
      have HSUC := hid (fun h1 h2 h3 => trail_succ HT.out (by rw [HGE.out]; exact h1) (by rw [HGE.out]; exact h2) (by rw [HGE.out]; exact h3))
      have HINV := hid (fun hh : TrailTo (nums rs) zs (k + 1) => by have := hh k (by omega); rw [HGE.out] at this; exact this)
      have HPR := hid (fun (h : 0 < k) => trail_range HT.out hk (zs[k - 1]'(by omega)) (List.mem_take_iff_getElem.2 ⟨k - 1, by omega, rfl⟩))
      have chc := hc; clear hc
      by_cases hin : 0 ≤ zs[k] ∧ zs[k] < rs.length
      · have HIN := hid (show decide (0 ≤ zs[k] ∧ zs[k] < (rs.length : Int)) = true by simpa using hin)
        have HI := hid hin; clear hin
        by_cases hmem : zs[k] ∈ zs.take k
        · have HM := hid (show decide (zs[k] ∈ zs.take k) = true by simpa using hmem)
          have HFIN := hid (show ¬ TrailTo (nums rs) zs zs.length from HNOT.out (fun hh => (HINV.out hh).2.1 hmem))
          clear hmem
          go_wp2
          have qc0 := fun (p : Bel _) => cellB p.h c0 (Nat.le_refl _)
          have qchc := fun (p : Bel _) => cellB p.h chc (Nat.le_refl _)
          refine wp_quiet_b (by kernel_rfl) (by kernel_rfl) ?_
          repeat (go_big_quiet_step (first | (go_at_call 82; exact qb (l1There_b _ _ _ _ _ _ HIN.out hn.1)) | (go_at_call 73; exact qbs (l1Has_take _ _ _ _ _ _ _ hk HM.out (RZ.out.bel _) hm))))
          refine wpQuiet_nil ?_
          intro _ hw'
          obtain ⟨⟨w1, hb⟩, rfl⟩ := hw'
          clear qc0 qchc
          replace RA := hid (RA.out.below hb (Nat.le_refl _))
          replace RZ := hid (RZ.out.below hb (Nat.le_refl _))
          replace B0 := hid (bon B0.out hb)
          replace BL := hid (bon BL.out hb)
          replace c0 := cellB hb c0 (Nat.le_refl _)
          replace chc := cellB hb chc (Nat.le_refl _)
          clear hb
          go_wp2
          go_ret
          exact ⟨ret_bool (dec_f HB.out HFIN.out), B0.out⟩
        · have HM := hid (show decide (zs[k] ∈ zs.take k) = false by simpa using hmem)
          have HS2 := hid (fun h3 => HSUC.out (by rw [nums_length]; exact HI.out) hmem h3)
          clear hmem
          rcases Nat.eq_zero_or_pos k with h0k | h0k
          · have hd0 : decide (0 < k) = false := by rw [decide_eq_false_iff_not]; omega
            have HS3 := hid (HS2.out (fun h => absurd h (by omega)))
            clear h0k
            go_wp2
            have qc0 := fun (p : Bel _) => cellB p.h c0 (Nat.le_refl _)
            have qchc := fun (p : Bel _) => cellB p.h chc (Nat.le_refl _)
            refine wp_quiet_b (by kernel_rfl) (by kernel_rfl) ?_
            repeat (go_big_quiet_step (first | (go_at_call 82; exact qb (l1There_b _ _ _ _ _ _ HIN.out hn.1)) | (go_at_call 73; exact qbs (l1Has_take _ _ _ _ _ _ _ hk HM.out (RZ.out.bel _) hm))))
            refine wpQuiet_nil ?_
            intro _ hw'
            obtain ⟨⟨w2, hb⟩, rfl⟩ := hw'
            clear qc0 qchc
            replace RA := hid (RA.out.below hb (Nat.le_refl _))
            replace RZ := hid (RZ.out.below hb (Nat.le_refl _))
            replace B0 := hid (bon B0.out hb)
            replace BL := hid (bon BL.out hb)
            replace c0 := cellB hb c0 (Nat.le_refl _)
            replace chc := cellB hb chc (Nat.le_refl _)
            clear hb
            go_wp2
            go_roundw
            case rel => exact ⟨k + 1, by omega, by go_num, HS3.out, BL.out⟩
            case measure => simp [intOf]; omega
          · obtain ⟨j, rfl⟩ : ∃ j, k = j + 1 := ⟨k - 1, by omega⟩
            have hd1 : decide ((0 : Int) < (j : Int) + 1) = true := by rw [decide_eq_true_iff]; omega
            obtain ⟨b2, o2, hbo, chc2⟩ := RZ.out j (by omega)
            obtain ⟨rfl, rfl⟩ : b2 = b' ∧ o2 = off := by simp at hbo; exact ⟨hbo.1.symm, hbo.2.symm⟩
            clear hbo
            have hi2 : (j : Int) < (zs.length : Int) := by omega
            have HGJ := hid (getD_eq zs j (by omega))
            have HP := hid (HPR.out (by omega))
            obtain ⟨b4, hb4⟩ : ∃ b4, decide (zs[j + 1] ∈ row (nums rs) (zs[j]'(by omega))) = b4 := ⟨_, rfl⟩
            have H4 := hid hb4; clear hb4
            have HS3 := hid (fun h : zs[j + 1] ∈ row (nums rs) (zs[j]'(by omega)) => HS2.out (fun _ => by rw [Nat.add_sub_cancel, HGJ.out]; exact h))
            have HF3 := hid (fun h : ¬ zs[j + 1] ∈ row (nums rs) (zs[j]'(by omega)) => HNOT.out (fun hh => h (by have := (HINV.out hh).2.2 (by omega); rw [Nat.add_sub_cancel, HGJ.out] at this; exact this)))
            have HP0 := hid HP.out.1
            have HP1 := hid (show (zs[j]'(by omega)) < (rs.length : Int) by have := HP.out.2; rw [nums_length] at this; exact this)
            clear HP HPR HS2 HSUC HINV HGE HGJ
            cases b4
            · have HFIN := hid (HF3.out (by have := H4.out; simpa using this))
              go_wp2
              have qc0 := fun (p : Bel _) => cellB p.h c0 (Nat.le_refl _)
              have qchc := fun (p : Bel _) => cellB p.h chc (Nat.le_refl _)
              have qchc2 := fun (p : Bel _) => cellB p.h chc2 (Nat.le_refl _)
              refine wp_quiet_b (by kernel_rfl) (by kernel_rfl) ?_
              repeat (go_big_quiet_step (first | (go_at_call 82; exact qb (l1There_b _ _ _ _ _ _ HIN.out hn.1)) | (go_at_call 73; exact qbs (l1Has_take _ _ _ (j + 1) _ _ _ hk HM.out (RZ.out.bel _) hm)) | (go_at_call 45; exact qb (l1Edge_b _ _ _ _ _ _ _ HP0.out HP1.out H4.out (RA.out.bel _) hn))))
              refine wpQuiet_nil ?_
              intro _ hw'
              obtain ⟨⟨w3, hb⟩, rfl⟩ := hw'
              clear qc0 qchc qchc2
              replace RA := hid (RA.out.below hb (Nat.le_refl _))
              replace RZ := hid (RZ.out.below hb (Nat.le_refl _))
              replace B0 := hid (bon B0.out hb)
              replace BL := hid (bon BL.out hb)
              replace c0 := cellB hb c0 (Nat.le_refl _)
              replace chc := cellB hb chc (Nat.le_refl _)
              replace chc2 := cellB hb chc2 (Nat.le_refl _)
              clear hb
              go_wp2
              go_ret
              exact ⟨ret_bool (dec_f HB.out HFIN.out), B0.out⟩
            · have HFIN := hid (HS3.out (by have := H4.out; simpa using this))
              go_wp2
              have qc0 := fun (p : Bel _) => cellB p.h c0 (Nat.le_refl _)
              have qchc := fun (p : Bel _) => cellB p.h chc (Nat.le_refl _)
              have qchc2 := fun (p : Bel _) => cellB p.h chc2 (Nat.le_refl _)
              refine wp_quiet_b (by kernel_rfl) (by kernel_rfl) ?_
              repeat (go_big_quiet_step (first | (go_at_call 82; exact qb (l1There_b _ _ _ _ _ _ HIN.out hn.1)) | (go_at_call 73; exact qbs (l1Has_take _ _ _ (j + 1) _ _ _ hk HM.out (RZ.out.bel _) hm)) | (go_at_call 45; exact qb (l1Edge_b _ _ _ _ _ _ _ HP0.out HP1.out H4.out (RA.out.bel _) hn))))
              refine wpQuiet_nil ?_
              intro _ hw'
              obtain ⟨⟨w4, hb⟩, rfl⟩ := hw'
              clear qc0 qchc qchc2
              replace RA := hid (RA.out.below hb (Nat.le_refl _))
              replace RZ := hid (RZ.out.below hb (Nat.le_refl _))
              replace B0 := hid (bon B0.out hb)
              replace BL := hid (bon BL.out hb)
              replace c0 := cellB hb c0 (Nat.le_refl _)
              replace chc := cellB hb chc (Nat.le_refl _)
              replace chc2 := cellB hb chc2 (Nat.le_refl _)
              clear hb
              go_wp2
              go_roundw
              case rel => exact ⟨j + 1 + 1, by omega, by go_num, HFIN.out, BL.out⟩
              case measure => simp [intOf]; omega
      · have HIN := hid (show decide (0 ≤ zs[k] ∧ zs[k] < (rs.length : Int)) = false by simpa using hin)
        have HFIN := hid (show ¬ TrailTo (nums rs) zs zs.length from HNOT.out (fun hh => hin (by have := (HINV.out hh).1; rw [nums_length] at this; exact this)))
        clear hin
        go_wp2
        have qc0 := fun (p : Bel _) => cellB p.h c0 (Nat.le_refl _)
        have qchc := fun (p : Bel _) => cellB p.h chc (Nat.le_refl _)
        refine wp_quiet_b (by kernel_rfl) (by kernel_rfl) ?_
        repeat (go_big_quiet_step (first | (go_at_call 82; exact qb (l1There_b _ _ _ _ _ _ HIN.out hn.1))))
        refine wpQuiet_nil ?_
        intro _ hw'
        obtain ⟨⟨w5, hb⟩, rfl⟩ := hw'
        clear qc0 qchc
        replace RA := hid (RA.out.below hb (Nat.le_refl _))
        replace RZ := hid (RZ.out.below hb (Nat.le_refl _))
        replace B0 := hid (bon B0.out hb)
        replace BL := hid (bon BL.out hb)
        replace c0 := cellB hb c0 (Nat.le_refl _)
        replace chc := cellB hb chc (Nat.le_refl _)
        clear hb
        go_wp2
        go_ret
        exact ⟨ret_bool (dec_f HB.out HFIN.out), B0.out⟩
    · obtain rfl : k = zs.length := by omega
      go_wp2
      go_ret
      exact ⟨ret_bool (dec_t HB.out HT.out), B0.out⟩
end Go.Proofs.Ythdfkpinaidkkaa
