/- WaysIn: both. -/
import Derived.Test.YthdfkpinaidkkaaWaysM
import Derived.Test.YthdfkpinaidkkaaIn
import Derived.Test.YthdfkpinaidkkaaFn
import Derived.Test.YthdfkpinaidkkaaSet
import Derived.Test.YthdfkpinaidkkaaSetOk
import Derived.Test.YthdfkpinaidkkaaQuiet
namespace Go.Proofs.Ythdfkpinaidkkaa
open Go.RowKit

set_option maxHeartbeats 4000000 in
theorem l9Form_b (a : Option Addr) (rs : List Row) (c : Nat) (b : Option Addr) (qs : List Row) (d : Nat) (w : World) (r : Bool) (hb : decide (FormP rs.length (nums qs)) = r) (hn : rs.length ≤ 1048576) (hq : RdM w b qs) (hm : Small qs) :
    Calls Try.prog 48 #[.agg #[.slice a rs.length c, .slice b qs.length d]] w fun e w' => e = .returned (.bool r) ∧ Below w.heap.size w w' := by
  have RQ := hid hq; have HB := hid hb; clear hq hb
  have hm1 := hm.1
  obtain ⟨w0, hw0⟩ : ∃ w0, w0 = (w.alloc (.cells #[.slice a rs.length c, .slice b qs.length d] 35)) := ⟨_, rfl⟩
  have B0 := hid (show Below w.heap.size w w0 by rw [hw0]; exact ((Below.refl _ _).alloc (Nat.le_refl _) _))
  have c0 : w0.cell? ⟨w.heap.size, 0, none⟩ = some (.slice a rs.length c) := by rw [hw0]; simp [go_sem]
  have c0a : w0.cell? ⟨w.heap.size, 1, none⟩ = some (.slice b qs.length d) := by rw [hw0]; simp [go_sem]
  replace RQ := hid (RQ.out.below B0.out (Nat.le_refl _))
  have HW := hid hw0; clear hw0
  by_cases hin : 1 ≤ rs.length ∧ rs.length ≤ 16
  · have HIN := hid (show decide ((1 : Int) ≤ (rs.length : Int) ∧ (rs.length : Int) ≤ 16) = true by rw [decide_eq_true_iff]; omega)
    by_cases hf : qs.length ≤ 16
    · have hd : decide ((16 : Int) < (qs.length : Int)) = false := by rw [decide_eq_false_iff_not]; omega
      have hdn : decide (16 < qs.length) = false := by rw [decide_eq_false_iff_not]; omega
      go_enter Try.func48, Try.ntmps48
      go_wp2_with fail
      rw [← HW.out]
      go_wp2_with (first | (go_at_call 71; refine (l1In_b _ _ _ _ _ HIN.out).mono ?_; rintro e w' ⟨rfl, rfl⟩))
      go_loopw [4] (fun i wr => ∃ k : Nat, k ≤ qs.length ∧ i = .int .i64 k ∧ (∀ j, (hj : j < qs.length) → j < k → qs[j].z.length = 2 ∧ Inc rs.length qs[j].z) ∧ Below w0.heap.size w0 wr) (fun i _ => qs.length - (intOf i).toNat)
      case atStart => exact ⟨0, Nat.zero_le _, rfl, fun j _ h => absurd h (Nat.not_lt_zero j), Below.refl _ _⟩
      case round =>
        obtain ⟨k, hk, rfl, hrows, hd⟩ := hrel
        have HROWS := hid hrows; clear hrows
        have BL := hid hd
        replace RQ := hid (RQ.out.below hd (Nat.le_refl _))
        replace B0 := hid (bon B0.out hd)
        replace c0 := cellB hd c0 (Nat.le_refl _)
        replace c0a := cellB hd c0a (Nat.le_refl _)
        clear hd
        by_cases hlt : k < qs.length
        · obtain ⟨b', o, rfl, cc, hok⟩ := RQ.out.at k hlt
          have RK := hid hok.1; clear hok
          have hz := Nat.le_trans (hm.2 _ (List.getElem_mem hlt)) (show 1048576 ≤ 16777216 by decide)
          have HOK := hid (fun (h1 : qs[k].z.length = 2) (h2 : Inc rs.length qs[k].z) => (show ∀ j, (hj : j < qs.length) → j < k + 1 → qs[j].z.length = 2 ∧ Inc rs.length qs[j].z from fun j hj hjk => by
            rcases Nat.lt_succ_iff_lt_or_eq.1 hjk with h3 | rfl
            · exact HROWS.out j hj h3
            · exact ⟨h1, h2⟩))
          have HNO := hid (fun (h : ¬ (qs[k].z.length = 2 ∧ Inc rs.length qs[k].z)) => (show ¬ FormP rs.length (nums qs) from fun hh => h (hh.row _ (List.mem_map.2 ⟨qs[k], List.getElem_mem hlt, rfl⟩))))
          generalize qs[k] = q at *
          have hi0 : (k : Int) < (qs.length : Int) := by omega
          by_cases h2 : q.z.length = 2
          · have hd2 : ((q.z.length : Int) != 2) = false := by rw [h2]; rfl
            obtain ⟨bi, hbi⟩ : ∃ bi, decide (Inc rs.length q.z) = bi := ⟨_, rfl⟩
            have HI := hid hbi
            have H2 := hid h2; clear h2
            cases bi
            · have HFIN := hid (HNO.out fun h => by have := h.2; simp [this] at hbi); clear hbi
              go_wp2_with fail
              refine (l1Set_b _ _ _ _ _ _ HI.out RK.out hz (by omega) (by omega)).mono ?_
              rintro e w1 ⟨rfl, hd⟩
              have hb := Drawn.bel hd
              replace RQ := hid (RQ.out.below hb (Nat.le_refl _))
              replace RK := hid (RK.out.below hb (Nat.le_refl _))
              replace B0 := hid (bon B0.out hb)
              replace BL := hid (bon BL.out hb)
              replace c0 := cellB hb c0 (Nat.le_refl _)
              replace c0a := cellB hb c0a (Nat.le_refl _)
              clear hb hd
              go_wp2
              go_ret
              exact ⟨ret_bool (dec_f HB.out HFIN.out), B0.out⟩
            · have HFIN := hid (HOK.out H2.out (by simpa using hbi)); clear hbi
              go_wp2_with fail
              refine (l1Set_b _ _ _ _ _ _ HI.out RK.out hz (by omega) (by omega)).mono ?_
              rintro e w2 ⟨rfl, hd⟩
              have hb := Drawn.bel hd
              replace RQ := hid (RQ.out.below hb (Nat.le_refl _))
              replace RK := hid (RK.out.below hb (Nat.le_refl _))
              replace B0 := hid (bon B0.out hb)
              replace BL := hid (bon BL.out hb)
              replace c0 := cellB hb c0 (Nat.le_refl _)
              replace c0a := cellB hb c0a (Nat.le_refl _)
              clear hb hd
              go_wp2
              go_roundw
              case rel => exact ⟨k + 1, by omega, by go_num, HFIN.out, BL.out⟩
              case measure => simp [intOf]; omega
          · have hd2 : ((q.z.length : Int) != 2) = true := by simp; omega
            have HFIN := hid (HNO.out fun h => h2 h.1)
            go_wp2
            go_ret
            exact ⟨ret_bool (dec_f HB.out HFIN.out), B0.out⟩
        · obtain rfl : k = qs.length := by omega
          have HFIN := hid (show FormP rs.length (nums qs) from ⟨hin.1, hin.2, by rw [nums_length]; exact hf, fun l hl => by
            obtain ⟨q, hq, rfl⟩ := List.mem_map.1 hl
            obtain ⟨j, hj, rfl⟩ := List.mem_iff_getElem.1 hq
            exact HROWS.out j hj hj⟩)
          go_wp2
          go_ret
          exact ⟨ret_bool (dec_t HB.out HFIN.out), B0.out⟩
    · have hd : decide ((16 : Int) < (qs.length : Int)) = true := by rw [decide_eq_true_iff]; omega
      have hdn : decide (16 < qs.length) = true := by rw [decide_eq_true_iff]; omega
      have HFIN := hid (show ¬ FormP rs.length (nums qs) from fun h => hf (by have := h.few; rwa [nums_length] at this))
      go_enter Try.func48, Try.ntmps48
      go_wp2_with fail
      rw [← HW.out]
      go_wp2_with (first | (go_at_call 71; refine (l1In_b _ _ _ _ _ HIN.out).mono ?_; rintro e w' ⟨rfl, rfl⟩))
      go_ret
      exact ⟨ret_bool (dec_f HB.out HFIN.out), B0.out⟩
  · have HIN := hid (show decide ((1 : Int) ≤ (rs.length : Int) ∧ (rs.length : Int) ≤ 16) = false by rw [decide_eq_false_iff_not]; omega)
    have HFIN := hid (show ¬ FormP rs.length (nums qs) from fun h => hin ⟨h.one, h.le⟩)
    go_enter Try.func48, Try.ntmps48
    go_wp2_with fail
    rw [← HW.out]
    go_wp2_with (first | (go_at_call 71; refine (l1In_b _ _ _ _ _ HIN.out).mono ?_; rintro e w' ⟨rfl, rfl⟩))
    go_ret
    exact ⟨ret_bool (dec_f HB.out HFIN.out), B0.out⟩
end Go.Proofs.Ythdfkpinaidkkaa
