/- ChordlessOk: both. -/
import Derived.Test.YthdfkpinaidkkaaChordM
import Derived.Test.YthdfkpinaidkkaaLoopI
import Derived.Test.YthdfkpinaidkkaaNets
namespace Go.Proofs.Ythdfkpinaidkkaa
open Go.RowKit

set_option maxHeartbeats 4000000 in
theorem l8Chordless_b (a : Option Addr) (rs : List Row) (c : Nat) (a' : Option Addr) (zs : List Int) (c' : Nat) (w : World) (b : Bool) (hb : decide (ChordP (nums rs) zs) = b) (hl : LoopP (nums rs) zs) (h4 : 4 ≤ zs.length) (hr : RdM w a rs) (hn : Small rs) (hz : Rd (Value.int .i64) w a' zs) (h16 : zs.length ≤ 16) :
    Calls Try.prog 63 #[.agg #[.slice a rs.length c], .slice a' zs.length c'] w fun e w' => e = .returned (.bool b) ∧ Below w.heap.size w w' := by
  have RA := hid hr; have RZ := hid hz; have HB := hid hb; clear hr hz hb
  have HL := hid hl; clear hl
  obtain ⟨w0, hw0⟩ : ∃ w0, w0 = (w.alloc (.cells #[.slice a rs.length c] 27)) := ⟨_, rfl⟩
  have B0 := hid (show Below w.heap.size w w0 by rw [hw0]; exact ((Below.refl _ _).alloc (Nat.le_refl _) _))
  have c0 : w0.cell? ⟨w.heap.size, 0, none⟩ = some (.slice a rs.length c) := by rw [hw0]; simp [go_sem]
  replace RA := hid (RA.out.below B0.out (Nat.le_refl _))
  replace RZ := hid (RZ.out.below B0.out (Nat.le_refl _))
  have HW := hid hw0; clear hw0
  go_enter Try.func63, Try.ntmps63
  go_wp2
  rw [← HW.out]
  go_loopw [6, 7] (fun x _ wr => ∃ i : Nat, i ≤ zs.length ∧ x = .int .i64 i ∧ (∀ i' k', k' + 1 < i' → i' < i → ¬ (k' = 0 ∧ i' = zs.length - 1) → zs.getD i' 0 ∉ row (nums rs) (zs.getD k' 0)) ∧ Below w0.heap.size w0 wr) (fun x _ _ => zs.length - (intOf x).toNat)
  case atStart => exact ⟨0, Nat.zero_le _, rfl, fun _ _ _ h => absurd h (Nat.not_lt_zero _), Below.refl _ _⟩
  case round =>
    obtain ⟨i, hi, rfl, hno, hd⟩ := hrel
    have HNO := hid hno; clear hno
    have BL := hid hd
    replace RA := hid (RA.out.below hd (Nat.le_refl _))
    replace RZ := hid (RZ.out.below hd (Nat.le_refl _))
    replace B0 := hid (bon B0.out hd)
    replace c0 := cellB hd c0 (Nat.le_refl _)
    clear hd
    by_cases hlt : i < zs.length
    · go_wp2
      obtain ⟨w1, rfl⟩ : ∃ w1, w1 = wr := ⟨_, rfl⟩
      go_loopw [7] (fun y wq => ∃ k : Nat, k ≤ i ∧ y = .int .i64 k ∧ (∀ k', k' < k → k' + 1 < i → ¬ (k' = 0 ∧ i = zs.length - 1) → zs.getD i 0 ∉ row (nums rs) (zs.getD k' 0)) ∧ Below w1.heap.size w1 wq) (fun y _ => i - (intOf y).toNat)
      case atStart => exact ⟨0, Nat.zero_le _, rfl, fun _ h => absurd h (Nat.not_lt_zero _), Below.refl _ _⟩
      case round =>
        obtain ⟨k, hk, rfl, hin, hd⟩ := hrel
        have HIN := hid hin; clear hin
        have BK := hid hd
        replace RA := hid (RA.out.below hd (Nat.le_refl _))
        replace RZ := hid (RZ.out.below hd (Nat.le_refl _))
        replace B0 := hid (bon B0.out hd)
        replace BL := hid (bon BL.out hd)
        replace c0 := cellB hd c0 (Nat.le_refl _)
        clear hd
        by_cases hlk : k + 1 < i
        · have hp1 := HL.out.rng (i := k) (by omega)
          have hge := getD_eq zs k (by omega)
          have hgi := getD_eq zs i hlt
          rw [hge] at hp1
          have HP0 := hid hp1.1
          have HP1 := hid (show (zs[k]'(by omega)) < (rs.length : Int) by have := hp1.2; rwa [nums_length] at this)
          have HSTEP := hid (fun h : (¬ (k = 0 ∧ i = zs.length - 1) → zs[i] ∉ row (nums rs) (zs[k]'(by omega))) => (show ∀ k', k' < k + 1 → k' + 1 < i → ¬ (k' = 0 ∧ i = zs.length - 1) → zs.getD i 0 ∉ row (nums rs) (zs.getD k' 0) from fun k' h1 h2 h3 => by
            rcases Nat.lt_succ_iff_lt_or_eq.1 h1 with h5 | rfl
            · exact HIN.out k' h5 h2 h3
            · rw [hge, hgi]; exact h h3))
          have HBAD := hid (fun (h : zs[i] ∈ row (nums rs) (zs[k]'(by omega))) (h3 : ¬ (k = 0 ∧ i = zs.length - 1)) => (show ¬ ChordP (nums rs) zs from fun hc => hc.none i k hlk hlt h3 (by rw [hge, hgi]; exact h)))
          obtain ⟨b', off, rfl, c1⟩ := RZ.out k (by omega)
          obtain ⟨b2, o2, hbo, c2⟩ := RZ.out i hlt
          obtain ⟨rfl, rfl⟩ : b2 = b' ∧ o2 = off := by simp at hbo; exact ⟨hbo.1.symm, hbo.2.symm⟩
          clear hbo hp1 hge hgi
          have hwr : IntKind.i64.wrap ((zs.length : Int) - 1) = (zs.length : Int) - 1 := IntWalk.i64_in _ (by omega)
          have hi0 : (k : Int) < (zs.length : Int) := by omega
          have hi1 : (i : Int) < (zs.length : Int) := by omega
          have hi2 : (k : Int) + 1 < (i : Int) := by omega
          obtain ⟨b4, hb4⟩ : ∃ b4, decide (zs[i] ∈ row (nums rs) (zs[k]'(by omega))) = b4 := ⟨_, rfl⟩
          have H4 := hid hb4
          by_cases hk0 : k = 0
          · have e1 : ((k : Int) == 0) = true := by subst hk0; rfl
            have e1' : (k == 0) = true := by subst hk0; rfl
            have e1d : decide (k = 0) = true := by simpa using hk0
            by_cases hin1 : i = zs.length - 1
            · have e2 : ((i : Int) == (zs.length : Int) - 1) = true := by rw [beq_iff_eq]; omega
              have e2d : decide ((i : Int) = (zs.length : Int) - 1) = true := by rw [decide_eq_true_iff]; omega
              have HFIN := hid (HSTEP.out (fun h => absurd ⟨hk0, hin1⟩ h))
              clear hk0 hin1 hb4
              go_wp2
              have qc0 := fun (p : Bel _) => cellB p.h c0 (Nat.le_refl _)
              have qc1 := fun (p : Bel _) => cellB p.h c1 (Nat.le_refl _)
              have qc2 := fun (p : Bel _) => cellB p.h c2 (Nat.le_refl _)
              refine wp_quiet_b (by kernel_rfl) (by kernel_rfl) ?_
              repeat (go_big_quiet_step (first | (go_at_call 45; exact qb (l1Edge_b _ _ _ _ _ _ _ HP0.out HP1.out H4.out (RA.out.bel _) hn))))
              refine wpQuiet_nil ?_
              intro _ hw'
              obtain ⟨⟨w1, hb⟩, rfl⟩ := hw'
              clear qc0 qc1 qc2
              replace RA := hid (RA.out.below hb (Nat.le_refl _))
              replace RZ := hid (RZ.out.below hb (Nat.le_refl _))
              replace B0 := hid (bon B0.out hb)
              replace BL := hid (bon BL.out hb)
              replace BK := hid (bon BK.out hb)
              replace c0 := cellB hb c0 (Nat.le_refl _)
              replace c1 := cellB hb c1 (Nat.le_refl _)
              replace c2 := cellB hb c2 (Nat.le_refl _)
              clear hb
              go_wp2
              go_roundw
              case rel => exact ⟨k + 1, by omega, by go_num, HFIN.out, BK.out⟩
              case measure => simp [intOf]; omega
            · have e2 : ((i : Int) == (zs.length : Int) - 1) = false := by rw [beq_eq_false_iff_ne]; omega
              have e2d : decide ((i : Int) = (zs.length : Int) - 1) = false := by rw [decide_eq_false_iff_not]; omega
              have HNOT := hid (show ¬ (k = 0 ∧ i = zs.length - 1) from fun h => hin1 h.2)
              clear hk0 hin1
              cases b4
              · have HFIN := hid (HSTEP.out (fun _ => by simpa using hb4))
                clear hb4
                go_wp2
                have qc0 := fun (p : Bel _) => cellB p.h c0 (Nat.le_refl _)
                have qc1 := fun (p : Bel _) => cellB p.h c1 (Nat.le_refl _)
                have qc2 := fun (p : Bel _) => cellB p.h c2 (Nat.le_refl _)
                refine wp_quiet_b (by kernel_rfl) (by kernel_rfl) ?_
                repeat (go_big_quiet_step (first | (go_at_call 45; exact qb (l1Edge_b _ _ _ _ _ _ _ HP0.out HP1.out H4.out (RA.out.bel _) hn))))
                refine wpQuiet_nil ?_
                intro _ hw'
                obtain ⟨⟨w2, hb⟩, rfl⟩ := hw'
                clear qc0 qc1 qc2
                replace RA := hid (RA.out.below hb (Nat.le_refl _))
                replace RZ := hid (RZ.out.below hb (Nat.le_refl _))
                replace B0 := hid (bon B0.out hb)
                replace BL := hid (bon BL.out hb)
                replace BK := hid (bon BK.out hb)
                replace c0 := cellB hb c0 (Nat.le_refl _)
                replace c1 := cellB hb c1 (Nat.le_refl _)
                replace c2 := cellB hb c2 (Nat.le_refl _)
                clear hb
                go_wp2
                go_roundw
                case rel => exact ⟨k + 1, by omega, by go_num, HFIN.out, BK.out⟩
                case measure => simp [intOf]; omega
              · have HFIN := hid (HBAD.out (by simpa using hb4) HNOT.out)
                clear hb4
                go_wp2
                have qc0 := fun (p : Bel _) => cellB p.h c0 (Nat.le_refl _)
                have qc1 := fun (p : Bel _) => cellB p.h c1 (Nat.le_refl _)
                have qc2 := fun (p : Bel _) => cellB p.h c2 (Nat.le_refl _)
                refine wp_quiet_b (by kernel_rfl) (by kernel_rfl) ?_
                repeat (go_big_quiet_step (first | (go_at_call 45; exact qb (l1Edge_b _ _ _ _ _ _ _ HP0.out HP1.out H4.out (RA.out.bel _) hn))))
                refine wpQuiet_nil ?_
                intro _ hw'
                obtain ⟨⟨w3, hb⟩, rfl⟩ := hw'
                clear qc0 qc1 qc2
                replace RA := hid (RA.out.below hb (Nat.le_refl _))
                replace RZ := hid (RZ.out.below hb (Nat.le_refl _))
                replace B0 := hid (bon B0.out hb)
                replace BL := hid (bon BL.out hb)
                replace BK := hid (bon BK.out hb)
                replace c0 := cellB hb c0 (Nat.le_refl _)
                replace c1 := cellB hb c1 (Nat.le_refl _)
                replace c2 := cellB hb c2 (Nat.le_refl _)
                clear hb
                go_wp2
                go_ret
                exact ⟨ret_bool (dec_f HB.out HFIN.out), B0.out⟩
          · have e1 : ((k : Int) == 0) = false := by rw [beq_eq_false_iff_ne]; omega
            have e1' : (k == 0) = false := by simpa using hk0
            have e1d : decide (k = 0) = false := by simpa using hk0
            have HNOT := hid (show ¬ (k = 0 ∧ i = zs.length - 1) from fun h => hk0 h.1)
            clear hk0
            cases b4
            · have HFIN := hid (HSTEP.out (fun _ => by simpa using hb4))
              clear hb4
              go_wp2
              have qc0 := fun (p : Bel _) => cellB p.h c0 (Nat.le_refl _)
              have qc1 := fun (p : Bel _) => cellB p.h c1 (Nat.le_refl _)
              have qc2 := fun (p : Bel _) => cellB p.h c2 (Nat.le_refl _)
              refine wp_quiet_b (by kernel_rfl) (by kernel_rfl) ?_
              repeat (go_big_quiet_step (first | (go_at_call 45; exact qb (l1Edge_b _ _ _ _ _ _ _ HP0.out HP1.out H4.out (RA.out.bel _) hn))))
              refine wpQuiet_nil ?_
              intro _ hw'
              obtain ⟨⟨w4, hb⟩, rfl⟩ := hw'
              clear qc0 qc1 qc2
              replace RA := hid (RA.out.below hb (Nat.le_refl _))
              replace RZ := hid (RZ.out.below hb (Nat.le_refl _))
              replace B0 := hid (bon B0.out hb)
              replace BL := hid (bon BL.out hb)
              replace BK := hid (bon BK.out hb)
              replace c0 := cellB hb c0 (Nat.le_refl _)
              replace c1 := cellB hb c1 (Nat.le_refl _)
              replace c2 := cellB hb c2 (Nat.le_refl _)
              clear hb
              go_wp2
              go_roundw
              case rel => exact ⟨k + 1, by omega, by go_num, HFIN.out, BK.out⟩
              case measure => simp [intOf]; omega
            · have HFIN := hid (HBAD.out (by simpa using hb4) HNOT.out)
              clear hb4
              go_wp2
              have qc0 := fun (p : Bel _) => cellB p.h c0 (Nat.le_refl _)
              have qc1 := fun (p : Bel _) => cellB p.h c1 (Nat.le_refl _)
              have qc2 := fun (p : Bel _) => cellB p.h c2 (Nat.le_refl _)
              refine wp_quiet_b (by kernel_rfl) (by kernel_rfl) ?_
              repeat (go_big_quiet_step (first | (go_at_call 45; exact qb (l1Edge_b _ _ _ _ _ _ _ HP0.out HP1.out H4.out (RA.out.bel _) hn))))
              refine wpQuiet_nil ?_
              intro _ hw'
              obtain ⟨⟨w5, hb⟩, rfl⟩ := hw'
              clear qc0 qc1 qc2
              replace RA := hid (RA.out.below hb (Nat.le_refl _))
              replace RZ := hid (RZ.out.below hb (Nat.le_refl _))
              replace B0 := hid (bon B0.out hb)
              replace BL := hid (bon BL.out hb)
              replace BK := hid (bon BK.out hb)
              replace c0 := cellB hb c0 (Nat.le_refl _)
              replace c1 := cellB hb c1 (Nat.le_refl _)
              replace c2 := cellB hb c2 (Nat.le_refl _)
              clear hb
              go_wp2
              go_ret
              exact ⟨ret_bool (dec_f HB.out HFIN.out), B0.out⟩
        · have HALL := hid (show ∀ i' k', k' + 1 < i' → i' < i + 1 → ¬ (k' = 0 ∧ i' = zs.length - 1) → zs.getD i' 0 ∉ row (nums rs) (zs.getD k' 0) from fun i' k' h1 h2 h3 => by
            rcases Nat.lt_succ_iff_lt_or_eq.1 h2 with h5 | rfl
            · exact HNO.out i' k' h1 h5 h3
            · exact HIN.out k' (by omega) h1 h3)
          have hi2 : ¬ ((k : Int) + 1 < (i : Int)) := by omega
          have hi2d : decide ((k : Int) + 1 < (i : Int)) = false := by rw [decide_eq_false_iff_not]; omega
          go_wp2
          go_roundw
          case rel => exact ⟨i + 1, by omega, by go_num, HALL.out, BL.out⟩
          case measure => simp [intOf]; omega
    · obtain rfl : i = zs.length := by omega
      have HFIN := hid (show ChordP (nums rs) zs from ⟨HL.out, h4, fun i' k' h1 h2 h3 => HNO.out i' k' h1 h2 h3⟩)
      go_wp2
      go_ret
      exact ⟨ret_bool (dec_t HB.out HFIN.out), B0.out⟩
end Go.Proofs.Ythdfkpinaidkkaa
